/- The program's versions: digits, part: walks. The program's versions: Check: a walk. The program's versions: Parse: a walk. The program's versions: Show: a walk. The program's versions: cmp.Or, number, parts: walks. The program's versions: Cmp: a walk. -/
import Derived.Test.YtboajinaiceekaaGreatDoorSemLib
import Derived.Test.YtboajinaiceekaaGreatDoorCells
import Derived.Deep.RegionHeld3
import Derived.Deep.DeepCutAuto
namespace Go.Proofs.YtboajinaiceekaaGreatDoor
open Go.RowKit
set_option maxRecDepth 100000 in
set_option maxHeartbeats 1000000 in
theorem digits_any (s : ByteArray) (b : Bool) (h : Sem4.digits s.data.toList = b) (w : World) (hs : s.size ≤ 9223372036854775807) :
    Calls Tryz.prog 60 #[.string s] w fun e w' => e = .returned (.bool b) ∧ Below w.heap.size w w' := by
  have H : Hid (Sem4.digits s.data.toList = (!s.toList.isEmpty && s.data.toList.all Sem4.isDig)) := by
    show _ = _
    unfold Sem4.digits; rw [Lib.toList_data]
  have HB := Lib.hid h
  clear h
  cases hem : s.toList.isEmpty
  · cases hal : s.data.toList.all Sem4.isDig
    all_goals
      have HE : Hid (b = _) := HB.out.symm.trans (H.out.trans (by rw [hem, hal]))
      have HA := Lib.hid hal
      clear hal
      go_enter Tryz.func60, Tryz.ntmps60
      go_wp2_with fail
      refine (trim_any s _ hs).mono ?_
      rintro e w1 ⟨t, rfl, ht, hb⟩
      rw [HA.out] at ht
      go_wp2_with fail
      go_ret
      exact ⟨by rw [HE.out]; rfl, hb⟩
  · have HE : Hid (b = _) := HB.out.symm.trans (H.out.trans (by rw [hem]))
    go_enter Tryz.func60, Tryz.ntmps60
    go_wp2_with fail
    go_ret
    exact ⟨by rw [HE.out]; rfl, Below.refl _ _⟩
theorem head_byte (s : ByteArray) (h : 0 < s.size) : s.data.toList.head? = some s[0] := by
  rw [List.head?_eq_getElem?, List.getElem?_eq_getElem (by rw [← Lib.size_eq]; exact h)]; rfl
theorem partCh_iff (x : UInt8) : Sem4.partCh x = true ↔ (48 ≤ x.toNat ∧ x.toNat ≤ 57) ∨ (97 ≤ x.toNat ∧ x.toNat ≤ 122) ∨ (65 ≤ x.toNat ∧ x.toNat ≤ 90) ∨ x.toNat = 45 := by
  simp [Sem4.partCh, Sem4.isDig]; omega
/-- what part asks ahead of its loop -/
def partHead (l : List UInt8) : Bool := !l.isEmpty && (!Sem4.digits l || decide (l = [48]) || decide (l.head? ≠ some 48))
theorem part_head (l : List UInt8) : Sem4.part l = (partHead l && l.all Sem4.partCh) := by
  unfold Sem4.part partHead
  cases l.isEmpty <;> cases l.all Sem4.partCh <;> simp
set_option maxRecDepth 100000 in
set_option maxHeartbeats 2000000 in
theorem part_any (s : ByteArray) (w : World) (hs : s.size ≤ 9223372036854775807) :
    Calls Tryz.prog 79 #[.string s] w fun e w' => e = .returned (.bool (Sem4.part s.data.toList)) ∧ Below w.heap.size w w' := by
  cases hh : partHead s.data.toList
  · have HE : Hid (Sem4.part s.data.toList = false) := by show _ = _; rw [part_head, hh]; rfl
    cases hem : s.toList.isEmpty
    · have hne : s.data.toList ≠ [] := by rw [Lib.toList_data] at hem; intro e; rw [e] at hem; cases hem
      have hsz : 0 < s.size := by rw [Lib.size_eq]; exact List.length_pos_iff.2 hne
      have hsi : (0 : Int) < (s.size : Int) := by omega
      have hd : Sem4.digits s.data.toList = true := by
        unfold partHead at hh
        rw [Lib.toList_data] at hem
        cases hd : Sem4.digits s.data.toList <;> simp_all
      have h48 : s.data.toList ≠ [48] := by
        intro e; rw [e] at hh; revert hh; decide
      have q1 : (s.toList == [48]) = false := by rw [Lib.toList_data]; simpa using h48
      obtain ⟨x0, hx0⟩ : ∃ x0, s[0] = x0 := ⟨_, rfl⟩
      have hx : x0.toNat = 48 := by
        have h1 := head_byte s hsz
        rw [hx0] at h1
        unfold partHead at hh
        rw [Lib.toList_data] at hem
        rw [hem, hd, h1] at hh
        have : x0 = 48 := by simpa [h48] using hh
        rw [this]; rfl
      have q2 : ((x0.toNat : Int) == 48) = true := by simp; omega
      have HD := Lib.hid hd
      clear hd h48 hx hne hh
      go_enter Tryz.func79, Tryz.ntmps79
      go_wp2_with fail
      refine (digits_any s true HD.out _ (by omega)).mono ?_
      rintro e w1 ⟨rfl, hb⟩
      go_wp2_with fail
      go_ret
      exact ⟨by rw [HE.out]; rfl, hb⟩
    · clear hh
      go_enter Tryz.func79, Tryz.ntmps79
      go_wp2_with fail
      go_ret
      exact ⟨by rw [HE.out]; rfl, Below.refl _ _⟩
  · have HE : Hid (Sem4.part s.data.toList = s.data.toList.all Sem4.partCh) := by show _ = _; rw [part_head, hh]; rfl
    have hne : s.data.toList ≠ [] := by intro e; rw [e] at hh; revert hh; decide
    have hem : s.toList.isEmpty = false := by
      rw [Lib.toList_data]
      cases h : s.data.toList with
      | nil => exact absurd h hne
      | cons _ _ => rfl
    have hsz : 0 < s.size := by rw [Lib.size_eq]; exact List.length_pos_iff.2 hne
    have hsi : (0 : Int) < (s.size : Int) := by omega
    obtain ⟨x0, hx0⟩ : ∃ x0, s[0] = x0 := ⟨_, rfl⟩
    have h1 := head_byte s hsz
    rw [hx0] at h1
    have hcase : Sem4.digits s.data.toList = false ∨ (Sem4.digits s.data.toList = true ∧ ((x0.toNat : Int) == 48) = false) ∨ (Sem4.digits s.data.toList = true ∧ ((x0.toNat : Int) == 48) = true ∧ (s.toList == [48]) = true) := by
      cases hd : Sem4.digits s.data.toList
      · exact .inl rfl
      · cases hq : ((x0.toNat : Int) == 48)
        · exact .inr (.inl ⟨rfl, rfl⟩)
        · refine .inr (.inr ⟨rfl, rfl, ?_⟩)
          have hx : x0 = 48 := by apply UInt8.toNat_inj.1; have := eq_of_beq hq; show x0.toNat = 48; omega
          unfold partHead at hh
          rw [hd, h1, hx] at hh
          rw [Lib.toList_data]
          simp at hh ⊢
          exact hh.2
    clear hh hne h1
    rcases hcase with hd | ⟨hd, q1⟩ | ⟨hd, q1, q2⟩
    all_goals
      have HD := Lib.hid hd
      clear hd
      go_enter Tryz.func79, Tryz.ntmps79
      go_wp2_with fail
      refine (digits_any s _ HD.out _ (by omega)).mono ?_
      rintro e w1 ⟨rfl, hb⟩
      go_wp2_with fail
      go_loop [3, 4, 22] (fun _ _ i => PartRel s i) (fun _ _ i => s.size - (intOf i).toNat)
      case atStart => exact ⟨0, Nat.zero_le _, rfl, rfl⟩
      case round =>
        obtain ⟨k, hk, rfl, hall⟩ := hrel
        have HA := Lib.hid hall
        clear hall
        by_cases hlt : k < s.size
        · have HT := Lib.hid (take_byte s k hlt)
          obtain ⟨x, hx⟩ : ∃ x, s[k] = x := ⟨_, rfl⟩
          rw [hx] at HT
          have HX : Hid (Sem4.partCh x = false → Sem4.part s.data.toList = false) := fun h => part_no s k hlt x hx h
          have HI := Lib.hid (partCh_iff x)
          have hx0 : (0 : Int) ≤ (x.toNat : Int) := by omega
          rcases (show ((x.toNat : Int) < 45) ∨ ((x.toNat : Int) ≤ 45 ∧ 45 ≤ (x.toNat : Int)) ∨ (46 ≤ (x.toNat : Int) ∧ (x.toNat : Int) < 48) ∨ (48 ≤ (x.toNat : Int) ∧ (x.toNat : Int) ≤ 57) ∨ (58 ≤ (x.toNat : Int) ∧ (x.toNat : Int) < 65) ∨ (65 ≤ (x.toNat : Int) ∧ (x.toNat : Int) ≤ 90) ∨ (91 ≤ (x.toNat : Int) ∧ (x.toNat : Int) < 97) ∨ (97 ≤ (x.toNat : Int) ∧ (x.toNat : Int) ≤ 122) ∨ (123 ≤ (x.toNat : Int)) by omega) with hc | ⟨hc, hc'⟩ | ⟨hc, hc'⟩ | ⟨hc, hc'⟩ | ⟨hc, hc'⟩ | ⟨hc, hc'⟩ | ⟨hc, hc'⟩ | ⟨hc, hc'⟩ | hc
          all_goals
            first
              | have q45 : ((x.toNat : Int) == 45) = true := by simp; omega
              | have q45 : ((x.toNat : Int) == 45) = false := by simp; omega
            first
              | have q57 : decide ((x.toNat : Int) ≤ 57) = true := by simp; omega
              | have q57 : decide ((x.toNat : Int) ≤ 57) = false := by simp; omega
            first
              | have q90 : decide ((x.toNat : Int) ≤ 90) = true := by simp; omega
              | have q90 : decide ((x.toNat : Int) ≤ 90) = false := by simp; omega
            first
              | have q122 : decide ((x.toNat : Int) ≤ 122) = true := by simp; omega
              | have q122 : decide ((x.toNat : Int) ≤ 122) = false := by simp; omega
            first
              | have q48 : decide (48 ≤ (x.toNat : Int)) = true := by simp; omega
              | have q48 : decide (48 ≤ (x.toNat : Int)) = false := by simp; omega
            first
              | have q65 : decide (65 ≤ (x.toNat : Int)) = true := by simp; omega
              | have q65 : decide (65 ≤ (x.toNat : Int)) = false := by simp; omega
            first
              | have q97 : decide (97 ≤ (x.toNat : Int)) = true := by simp; omega
              | have q97 : decide (97 ≤ (x.toNat : Int)) = false := by simp; omega
            first
              | have HP : Hid (Sem4.partCh x = true) := HI.out.2 (by omega)
              | have HP : Hid (Sem4.part s.data.toList = false) := HX.out (by rw [Bool.eq_false_iff]; intro h; have := HI.out.1 h; omega)
            clear hc
            go_wp2_with fail
            first
              | (go_round
                 case rel => exact ⟨k + 1, by omega, by go_num, by rw [HT.out, List.all_append, HA.out]; simp [HP.out]⟩
                 case measure => simp [intOf]; omega)
              | (go_ret
                 exact ⟨by rw [HP.out]; rfl, hb⟩)
        · have q : decide ((k : Int) < (s.size : Int)) = false := by simp; omega
          obtain rfl : k = s.size := by omega
          have HF : Hid (Sem4.part s.data.toList = true) := by
            show _ = _
            rw [HE.out]
            have := HA.out
            rwa [List.take_of_length_le (by rw [← Lib.size_eq]; exact Nat.le_refl _)] at this
          go_wp2_with fail
          go_ret
          exact ⟨by rw [HF.out]; rfl, hb⟩
end Go.Proofs.YtboajinaiceekaaGreatDoor

namespace Go.Proofs.YtboajinaiceekaaGreatDoor
open Go.RowKit
theorem partP_as (s : ByteArray) (b : Bool) (h : Sem4.part s.data.toList = b) (w : World) (hs : s.size ≤ 9223372036854775807) :
    Calls Tryz.prog 79 #[.string s] w fun e w' => e = .returned (.bool b) ∧ Below w.heap.size w w' := by
  subst h; exact part_any s w hs
def NRel (a b c : Int) (i : Value) : Prop := i = .int .i64 0 ∨ (i = .int .i64 1 ∧ numOk a = true) ∨ (i = .int .i64 2 ∧ numOk a = true ∧ numOk b = true) ∨ (i = .int .i64 3 ∧ numOk a = true ∧ numOk b = true ∧ numOk c = true)
def ChkRelW (ls : List (List UInt8)) (w : World) (i : Value) (wr : World) : Prop := ∃ k : Nat, k ≤ ls.length ∧ i = .int .i64 (k : Int) ∧ (ls.take k).all Sem4.part = true ∧ Below w.heap.size w wr
theorem numOk_cases (n : Int) : (numOk n = true ∧ 0 ≤ n ∧ n ≤ 999999) ∨ (numOk n = false ∧ n < 0) ∨ (numOk n = false ∧ 0 ≤ n ∧ 999999 < n) := by
  unfold numOk
  by_cases h : 0 ≤ n <;> by_cases h' : n ≤ 999999 <;> simp [h, h'] <;> omega
theorem verErr_num {a b c : Int} (p : List UInt8) (h : numOk a = false ∨ numOk b = false ∨ numOk c = false) : verErr a b c p = 40 := by
  unfold verErr verOk
  rcases h with h | h | h <;> rw [h] <;> simp
set_option maxRecDepth 100000 in
set_option maxHeartbeats 2000000 in
theorem check_any (a b c : Int) (p : ByteArray) (w : World) (hE : Env w) (hs : p.size ≤ 9223372036854775807) :
    Calls Tryz.prog 46 #[.agg #[.int .i64 a, .int .i64 b, .int .i64 c, .string p]] w fun e w' => e = .returned (.int .i64 (verErr a b c p.data.toList)) ∧ Below w.heap.size w w' := by
  have HEnv := Lib.hid hE
  clear hE
  have hW := ((Below.refl w.heap.size w).alloc (Nat.le_refl _) (.cells #[.int .i64 a, .int .i64 b, .int .i64 c, .string p] 45)).alloc (by simp) (.cells #[.int .i64 a, .int .i64 b, .int .i64 c] 3)
  go_enter Tryz.func46, Tryz.ntmps46
  go_wp2_with fail
  go_loop [4, 15] (fun _ i => NRel a b c i) (fun _ i => 3 - (intOf i).toNat)
  case atStart => exact .inl rfl
  case round =>
    rcases hrel with rfl | ⟨rfl, ha⟩ | ⟨rfl, ha, hb⟩ | ⟨rfl, ha, hb, hc⟩
    · rcases numOk_cases a with ⟨h, h0, h1⟩ | ⟨h, h0⟩ | ⟨h, h0, h1⟩
      · have H := Lib.hid h
        clear h
        go_wp2_with fail
        go_round
        case rel => exact .inr (.inl ⟨rfl, H.out⟩)
        case measure => simp [intOf]
      all_goals
        have HE := Lib.hid (verErr_num (a := a) (b := b) (c := c) p.data.toList (.inl h))
        clear h
        go_wp2_with fail
        go_ret
        exact ⟨by rw [HE.out]; rfl, hW⟩
    · have HA := Lib.hid ha
      clear ha
      rcases numOk_cases b with ⟨h, h0, h1⟩ | ⟨h, h0⟩ | ⟨h, h0, h1⟩
      · have H := Lib.hid h
        clear h
        go_wp2_with fail
        go_round
        case rel => exact .inr (.inr (.inl ⟨rfl, HA.out, H.out⟩))
        case measure => simp [intOf]
      all_goals
        have HE := Lib.hid (verErr_num (a := a) (b := b) (c := c) p.data.toList (.inr (.inl h)))
        clear h
        go_wp2_with fail
        go_ret
        exact ⟨by rw [HE.out]; rfl, hW⟩
    · have HA := Lib.hid ha
      have HB := Lib.hid hb
      clear ha hb
      rcases numOk_cases c with ⟨h, h0, h1⟩ | ⟨h, h0⟩ | ⟨h, h0, h1⟩
      · have H := Lib.hid h
        clear h
        go_wp2_with fail
        go_round
        case rel => exact .inr (.inr (.inr ⟨rfl, HA.out, HB.out, H.out⟩))
        case measure => simp [intOf]
      all_goals
        have HE := Lib.hid (verErr_num (a := a) (b := b) (c := c) p.data.toList (.inr (.inr h)))
        clear h
        go_wp2_with fail
        go_ret
        exact ⟨by rw [HE.out]; rfl, hW⟩
    · have HV : Hid (verErr a b c p.data.toList = if decide (p.size ≤ 24) && preOk p.data.toList then 0 else 40) := by
        show _ = _
        unfold verErr verOk
        rw [ha, hb, hc, ← Lib.size_eq]; rfl
      clear ha hb hc
      by_cases h6 : 24 < p.size
      · have q6 : decide ((24 : Int) < (p.size : Int)) = true := by simp; omega
        have HE : Hid (verErr a b c p.data.toList = 40) := by
          show _ = _
          rw [HV.out, if_neg (by simp; omega)]
        clear h6
        go_wp2_with fail
        go_ret
        exact ⟨by rw [HE.out]; rfl, hW⟩
      have q6 : decide ((24 : Int) < (p.size : Int)) = false := by simp; omega
      have hps : p.size ≤ 24 := by omega
      have HV1 : Hid (verErr a b c p.data.toList = if preOk p.data.toList then 0 else 40) := by
        show _ = _
        rw [HV.out, decide_eq_true hps]; rfl
      clear h6
      cases hem : p.toList.isEmpty
      case true =>
        have HE : Hid (verErr a b c p.data.toList = 0) := by
          show _ = _
          rw [HV1.out, ← Lib.toList_data]; unfold preOk; rw [hem]; rfl
        go_wp2_with fail
        go_ret
        exact ⟨by rw [HE.out]; rfl, hW⟩
      obtain ⟨ls, hls⟩ : ∃ ls, Sem4.dots p.data.toList = ls := ⟨_, rfl⟩
      have hln : 0 < ls.length := by rw [← hls]; exact List.length_pos_iff.2 (Sem4.dots_ne _)
      have hlen : ls.length ≤ 25 := by
        have := dots_len p.data.toList
        rw [hls, ← Lib.size_eq] at this; omega
      have HSZ : Hid (∀ l ∈ ls, l.length ≤ 24) := by
        intro l hl
        rw [← hls] at hl
        have := dots_part_size _ l hl
        rw [← Lib.size_eq] at this; omega
      have HV2 : Hid (verErr a b c p.data.toList = if ls.all Sem4.part then 0 else 40) := by
        show _ = _
        rw [HV1.out]; unfold preOk
        rw [← Lib.toList_data] at hls ⊢
        rw [hem, hls]; rfl
      have HLS := Lib.hid hls
      clear hls HV HV1
      go_wp2_with fail
      refine (split_any p _ (HEnv.out.below hW) (by omega)).mono ?_
      rintro e w2 ⟨v, rfl, hv, hb2⟩
      rw [HLS.out] at hv
      obtain ⟨bx, ox, capx, rfl, hbx, hcx⟩ := hv.full hln
      have HCX := Lib.hid hcx
      have hbw := below_then hW hb2
      clear hv hcx hb2
      go_wp2_with fail
      go_loopw [6, 37] (fun _ i wr => ChkRelW ls w2 i wr) (fun _ i _ => ls.length - (intOf i).toNat)
      case atStart => exact ⟨0, Nat.zero_le _, rfl, rfl, Below.refl _ _⟩
      case round =>
        obtain ⟨k, hk, rfl, hall, hbr⟩ := hrel
        have HA := Lib.hid hall
        clear hall
        by_cases hlt : k < ls.length
        · have hc : wr.cell? ⟨bx, ox + k, none⟩ = some (.string (S ls[k])) := (hbr.cell (p := ⟨bx, ox + k, none⟩) hbx).trans (HCX.out k hlt)
          have hki : (k : Int) < (ls.length : Int) := by omega
          have hsk : (S ls[k]).size ≤ 9223372036854775807 := by
            rw [S_size]; have := HSZ.out _ (List.getElem_mem hlt); omega
          cases hp : Sem4.part ls[k]
          · have HP : Hid (Sem4.part (S ls[k]).data.toList = false) := hp
            have HE : Hid (verErr a b c p.data.toList = 40) := by
              show _ = _
              rw [HV2.out, if_neg]
              intro h
              have := List.all_eq_true.1 h _ (List.getElem_mem hlt)
              rw [hp] at this; cases this
            clear hp
            go_wp2_with fail
            refine (partP_as _ false HP.out _ hsk).mono ?_
            rintro e w3 ⟨rfl, hb3⟩
            go_wp2_with fail
            go_ret
            exact ⟨by rw [HE.out]; rfl, below_then hbw (below_then hbr hb3)⟩
          · have HP : Hid (Sem4.part (S ls[k]).data.toList = true) := hp
            clear hp
            go_wp2_with fail
            refine (partP_as _ true HP.out _ hsk).mono ?_
            rintro e w3 ⟨rfl, hb3⟩
            go_wp2_with fail
            go_roundw
            case rel => exact ⟨k + 1, by omega, by go_num, by rw [List.take_succ_eq_append_getElem hlt, List.all_append, HA.out]; simpa [S_data] using HP.out, below_then hbr hb3⟩
            case measure => simp [intOf]; omega
        · have q : decide ((k : Int) < (ls.length : Int)) = false := by simp; omega
          obtain rfl : k = ls.length := by omega
          have HE : Hid (verErr a b c p.data.toList = 0) := by
            show _ = _
            have := HA.out
            rw [List.take_of_length_le (Nat.le_refl _)] at this
            rw [HV2.out, this]; rfl
          go_wp2_with fail
          go_ret
          exact ⟨by rw [HE.out]; rfl, below_then hbw hbr⟩
end Go.Proofs.YtboajinaiceekaaGreatDoor

namespace Go.Proofs.YtboajinaiceekaaGreatDoor
open Go.RowKit
def PRelP (ls : List (List UInt8)) (w w3 : World) (B8 : Nat) (i : Value) (wr : World) : Prop :=
  ∃ k : Nat, k ≤ 3 ∧ i = .int .i64 (k : Int) ∧ (∀ j, j < k → okNum (ls.getD j []) = true) ∧
    (∀ j, j < 3 → wr.cell? ⟨B8, j, none⟩ = some (.int .i64 ((if j < k then dfold (ls.getD j []) else 0 : Nat) : Int))) ∧ (∀ j, j < 3 → wr.frozen? ⟨B8, j, none⟩ = false) ∧
    Below (w.heap.size + 1) (w.alloc (.cells #[.int .i64 0, .int .i64 0, .int .i64 0, .string ⟨#[]⟩] 45)) wr ∧ Below w3.heap.size w3 wr ∧ B8 < wr.heap.size
theorem checkP_as (a b c : Int) (p : ByteArray) (r : Int) (h : verErr a b c p.data.toList = r) (w : World) (hE : Env w) (hs : p.size ≤ 9223372036854775807) :
    Calls Tryz.prog 46 #[.agg #[.int .i64 a, .int .i64 b, .int .i64 c, .string p]] w fun e w' => e = .returned (.int .i64 r) ∧ Below w.heap.size w w' := by
  subst h; exact check_any a b c p w hE hs
theorem atoi_t (t : ByteArray) (x : List UInt8) (N : Nat) (hx : t.data.toList = x) (h : x.all Sem4.isDig = true) (hn : x ≠ []) (hl : t.size ≤ 6) (hN : dfold x = N) (w : World) :
    Calls Tryz.prog 61 #[.string t] w fun e w' => e = .returned (.tuple #[.int .i64 (N : Int), .nilIface]) ∧ Below w.heap.size w w' := by
  subst hx hN
  exact atoi_any t.data.toList h hn (by rw [← Lib.size_eq]; exact hl) w
set_option maxRecDepth 100000 in
set_option maxHeartbeats 4000000 in
theorem parse_any (s : ByteArray) (w : World) (hE : Env w) (hs : s.size < 4294967281) :
    Calls Tryz.prog 34 #[.string s] w (ParseAs s.data.toList w) := by
  have HEnv := Lib.hid hE
  clear hE
  have hW := (Below.refl w.heap.size w).alloc (Nat.le_refl _) (.cells #[.int .i64 0, .int .i64 0, .int .i64 0, .string ⟨#[]⟩] 45)
  obtain ⟨l, hl⟩ : ∃ l, s.data.toList = l := ⟨_, rfl⟩
  have HL := Lib.hid hl
  rw [hl]
  have hlen : l.length < 4294967281 := by rw [← hl, ← Lib.size_eq]; exact hs
  have hcl : (coreOf l).length ≤ l.length := (List.takeWhile_sublist _).length_le
  have hpl : (preOf l).length ≤ l.length := by
    unfold preOf; rw [List.length_drop]
    have := (List.dropWhile_sublist (p := notDash) (l := l)).length_le
    omega
  clear hl
  go_enter Tryz.func34, Tryz.ntmps34
  go_wp2_with fail
  refine (cut_any s _ (HEnv.out.below hW) hs).mono ?_
  rintro e w1 ⟨rfl, hb1⟩
  rw [HL.out]
  have hb1' : Below (w.heap.size + 1) (w.alloc (.cells #[.int .i64 0, .int .i64 0, .int .i64 0, .string ⟨#[]⟩] 45)) w1 := hb1.mono (by simp)
  have hW1 := below_then hW hb1
  obtain ⟨ls, hls⟩ : ∃ ls, Sem4.dots (coreOf l) = ls := ⟨_, rfl⟩
  have HLS := Lib.hid hls
  have HSC : Hid ((S (coreOf l)).data.toList = coreOf l) := rfl
  have HSP : Hid ((S (preOf l)).data.toList = preOf l) := rfl
  obtain ⟨C, hC⟩ : ∃ C, S (coreOf l) = C := ⟨_, rfl⟩
  obtain ⟨P, hP⟩ : ∃ P, S (preOf l) = P := ⟨_, rfl⟩
  obtain ⟨more, hM⟩ : ∃ more, (l.any fun c => !notDash c) = more := ⟨_, rfl⟩
  have hCs : C.size < 4294967281 := by rw [← hC, S_size]; omega
  have hPs : P.size < 4294967281 := by rw [← hP, S_size]; omega
  have hPe : P.toList.isEmpty = (preOf l).isEmpty := by rw [← hP, Lib.toList_data]; rfl
  rw [hC] at HSC
  rw [hP] at HSP
  rw [hC, hP, hM]
  have HPe := Lib.hid hPe
  have HM := Lib.hid hM
  clear hls hC hP hM hPe
  go_wp2_with fail
  refine (split_any C _ (HEnv.out.below hW1) hCs).mono ?_
  rintro e w2 ⟨v, rfl, hv, hb2⟩
  have hb2' := box_then hb1' hb2
  have hW2 := below_then hW1 hb2
  rw [HSC.out, HLS.out] at hv
  have hne : 0 < ls.length := by rw [← HLS.out]; exact List.length_pos_iff.2 (Sem4.dots_ne _)
  obtain ⟨bx, ox, capx, rfl, hbx, hcx⟩ := hv.full hne
  have HCX := Lib.hid hcx
  have c0 := box_cells hb2' 0
  have c1 := box_cells hb2' 1
  have c2 := box_cells hb2' 2
  have c3 := box_cells hb2' 3
  have f0 := box_free hb2' 0
  have f1 := box_free hb2' 1
  have f2 := box_free hb2' 2
  have f3 := box_free hb2' 3
  simp at c0 c1 c2 c3
  have hB0 : w.heap.size < w2.heap.size := cell_lt c0
  clear hv hcx hb1 hb2
  by_cases h3 : ls.length = 3
  case neg =>
    have HP := Lib.hid (parse_no3 (l := l) (by rw [HLS.out]; exact h3))
    have q : ((ls.length : Int) != 3) = true := by simp; omega
    clear h3
    go_wp2_with fail
    exact bodyPost_ret (v := .tuple #[.agg #[.int .i64 0, .int .i64 0, .int .i64 0, .string ⟨#[]⟩], .int .i64 40]) (by simp [results, Tryz.results34, go_sem, c0, c1, c2, c3]) rfl ⟨0, 0, 0, [], 40, rfl, HP.out, ((((hW2.setCell (Nat.le_refl _) _).setCell (Nat.le_refl _) _).setCell (Nat.le_refl _) _).setCell (Nat.le_refl _) _)⟩
  have q : ((ls.length : Int) != 3) = false := by simp; omega
  have H3 := Lib.hid h3
  have h31 : ls.length ≤ 3 := by omega
  have h32 : 3 ≤ ls.length := by omega
  clear h3
  cases hmp : (more && P.toList.isEmpty)
  case true =>
    have hm1 : more = true := by revert hmp; cases more <;> simp
    have hm2 : P.toList.isEmpty = true := by revert hmp; cases more <;> simp
    have HP := Lib.hid (parse_noPre (l := l) (by rw [HM.out, ← HPe.out]; exact hmp))
    clear hmp
    subst hm1
    go_wp2_with fail
    exact bodyPost_ret (v := .tuple #[.agg #[.int .i64 0, .int .i64 0, .int .i64 0, .string ⟨#[]⟩], .int .i64 40]) (by simp [results, Tryz.results34, go_sem, c0, c1, c2, c3]) rfl ⟨0, 0, 0, [], 40, rfl, HP.out, ((((hW2.setCell (Nat.le_refl _) _).setCell (Nat.le_refl _) _).setCell (Nat.le_refl _) _).setCell (Nat.le_refl _) _)⟩
  have HMP : Hid ((l.any (fun c => !notDash c) && (preOf l).isEmpty) = false) := by
    show _ = _
    rw [HM.out, ← HPe.out]; exact hmp
  have hmp' : more = false ∨ (more = true ∧ P.toList.isEmpty = false) := by
    cases more
    · exact .inl rfl
    · exact .inr ⟨rfl, by simpa using hmp⟩
  clear hmp
  rcases hmp' with hmm | ⟨hmm, hpe⟩
  all_goals
    subst hmm
    have HE2 := Lib.hid (HEnv.out.below hW2)
    go_wp2_with fail
    go_loopw [9, 10, 34] (fun _ _ i wr => PRelP ls w w2 w2.heap.size i wr) (fun _ _ i _ => 3 - (intOf i).toNat)
    case atStart =>
      refine ⟨0, by omega, rfl, fun j hj => absurd hj (by omega), fun j hj => ?_, fun j hj => ?_, box_then hb2' ((Below.refl _ _).alloc (Nat.le_refl _) _), (Below.refl _ _).alloc (Nat.le_refl _) _, by simp⟩
      · rw [if_neg (by omega)]
        rcases (show j = 0 ∨ j = 1 ∨ j = 2 by omega) with rfl | rfl | rfl <;> go_simp <;> rfl
      · rcases (show j = 0 ∨ j = 1 ∨ j = 2 by omega) with rfl | rfl | rfl <;> go_simp
    case round =>
      obtain ⟨k, hk, rfl, hok, hcs, hfs, hbr, hbr2, hB8⟩ := hrel
      have HOK := Lib.hid hok
      have HCS := Lib.hid hcs
      have HFS := Lib.hid hfs
      have hWr := below_first hbr
      have HE3 := Lib.hid (HE2.out.below hbr2)
      clear hok hcs hfs c0 c1 c2 c3 f0 f1 f2 f3
      by_cases hlt : k < 3
      · have hkl : k < ls.length := by omega
        have i1 : (k : Int) < (ls.length : Int) := by omega
        have i0 : (0 : Int) ≤ (k : Int) := by omega
        have i3 : (k : Int) < 3 := by omega
        have hc := (hbr2.cell (p := ⟨bx, ox + k, none⟩) hbx).trans (HCX.out k hkl)
        obtain ⟨x, hx⟩ : ∃ x, ls[k] = x := ⟨_, rfl⟩
        have hgd : ls.getD k [] = x := by rw [List.getD_eq_getElem?_getD, List.getElem?_eq_getElem hkl, hx]; rfl
        have HGD := Lib.hid hgd
        have HNo : Hid (okNum x = false → ParseIs l 0 0 0 [] 40) := by
          intro h
          refine parse_noNum (k := k) (by rw [HLS.out]; exact hkl) ?_
          have e : ∀ (a : List (List UInt8)) (h : k < a.length), a = ls → a[k] = x := fun a h e => by subst e; exact hx
          rw [e _ _ HLS.out]; exact h
        rw [hx] at hc
        have HXL : Hid ((S x).data.toList = x) := rfl
        have hxz : (S x).size = x.length := S_size x
        obtain ⟨t, ht⟩ : ∃ t, S x = t := ⟨_, rfl⟩
        rw [ht] at hc hxz HXL
        have htz : t.size ≤ 4294967281 + 1 := by
          have h1 : x.length ≤ (coreOf l).length := by
            have : x ∈ Sem4.dots (coreOf l) := by rw [HLS.out, ← hx]; exact List.getElem_mem hkl
            exact dots_part_size _ x this
          omega
        have HXZ := Lib.hid hxz
        clear hx hgd ht hxz
        cases hd : Sem4.digits x
        · have HP := Lib.hid (HNo.out (by unfold okNum; rw [hd]; rfl))
          have HD := Lib.hid hd
          clear hd
          go_wp2_with fail
          refine (digits_any t false (by rw [HXL.out]; exact HD.out) _ (by omega)).mono ?_
          rintro e w4 ⟨rfl, hb4⟩
          have hbE := box_then hbr hb4
          have c0 := box_cells hbE 0
          have c1 := box_cells hbE 1
          have c2 := box_cells hbE 2
          have c3 := box_cells hbE 3
          have f0 := box_free hbE 0
          have f1 := box_free hbE 1
          have f2 := box_free hbE 2
          have f3 := box_free hbE 3
          simp at c0 c1 c2 c3
          have hWE := below_first hbE
          go_wp2_with fail
          exact bodyPost_ret (v := .tuple #[.agg #[.int .i64 0, .int .i64 0, .int .i64 0, .string ⟨#[]⟩], .int .i64 40]) (by simp [results, Tryz.results34, go_sem, c0, c1, c2, c3]) rfl ⟨0, 0, 0, [], 40, rfl, HP.out, ((((hWE.setCell (Nat.le_refl _) _).setCell (Nat.le_refl _) _).setCell (Nat.le_refl _) _).setCell (Nat.le_refl _) _)⟩

        have HD := Lib.hid hd
        have hxn : x ≠ [] := by rintro rfl; exact absurd hd (by decide)
        have hx0 : 0 < t.size := by rw [HXZ.out]; exact List.length_pos_iff.2 hxn
        have hx0i : (0 : Int) < (t.size : Int) := by omega
        obtain ⟨x0, hx0'⟩ : ∃ x0, t[0] = x0 := ⟨_, rfl⟩
        have hhd : x.head? = some x0 := by
          have := head_byte t hx0
          rw [HXL.out, hx0'] at this; exact this
        have HHD := Lib.hid hhd
        have HXN := Lib.hid hxn
        clear hd hhd hxn
        by_cases h6 : 6 < t.size
        · have HP := Lib.hid (HNo.out (by unfold okNum; rw [HD.out, ← HXZ.out]; simp; omega))
          have q6 : decide ((6 : Int) < (t.size : Int)) = true := by simp; omega
          clear h6
          go_wp2_with fail
          refine (digits_any t true (by rw [HXL.out]; exact HD.out) _ (by omega)).mono ?_
          rintro e w4 ⟨rfl, hb4⟩
          have hbE := box_then hbr hb4
          have c0 := box_cells hbE 0
          have c1 := box_cells hbE 1
          have c2 := box_cells hbE 2
          have c3 := box_cells hbE 3
          have f0 := box_free hbE 0
          have f1 := box_free hbE 1
          have f2 := box_free hbE 2
          have f3 := box_free hbE 3
          simp at c0 c1 c2 c3
          have hWE := below_first hbE
          go_wp2_with fail
          exact bodyPost_ret (v := .tuple #[.agg #[.int .i64 0, .int .i64 0, .int .i64 0, .string ⟨#[]⟩], .int .i64 40]) (by simp [results, Tryz.results34, go_sem, c0, c1, c2, c3]) rfl ⟨0, 0, 0, [], 40, rfl, HP.out, ((((hWE.setCell (Nat.le_refl _) _).setCell (Nat.le_refl _) _).setCell (Nat.le_refl _) _).setCell (Nat.le_refl _) _)⟩

        have q6 : decide ((6 : Int) < (t.size : Int)) = false := by simp; omega
        have h6' : t.size ≤ 6 := by omega
        clear h6
        by_cases hz : 1 < t.size ∧ x0.toNat = 48
        · obtain ⟨hz1, hz2⟩ := hz
          have HP := Lib.hid (HNo.out (by
            unfold okNum; rw [HD.out, ← HXZ.out, HHD.out]
            have : x0 = 48 := UInt8.toNat_inj.1 hz2
            rw [this]; simp; omega))
          have q1 : decide ((1 : Int) < (t.size : Int)) = true := by simp; omega
          have q2 : ((x0.toNat : Int) == 48) = true := by simp; omega
          clear hz1 hz2
          go_wp2_with fail
          refine (digits_any t true (by rw [HXL.out]; exact HD.out) _ (by omega)).mono ?_
          rintro e w4 ⟨rfl, hb4⟩
          have hbE := box_then hbr hb4
          have c0 := box_cells hbE 0
          have c1 := box_cells hbE 1
          have c2 := box_cells hbE 2
          have c3 := box_cells hbE 3
          have f0 := box_free hbE 0
          have f1 := box_free hbE 1
          have f2 := box_free hbE 2
          have f3 := box_free hbE 3
          simp at c0 c1 c2 c3
          have hWE := below_first hbE
          go_wp2_with fail
          exact bodyPost_ret (v := .tuple #[.agg #[.int .i64 0, .int .i64 0, .int .i64 0, .string ⟨#[]⟩], .int .i64 40]) (by simp [results, Tryz.results34, go_sem, c0, c1, c2, c3]) rfl ⟨0, 0, 0, [], 40, rfl, HP.out, ((((hWE.setCell (Nat.le_refl _) _).setCell (Nat.le_refl _) _).setCell (Nat.le_refl _) _).setCell (Nat.le_refl _) _)⟩

        have HON : Hid (okNum x = true) := by
          refine (okNum_iff x).2 ⟨HD.out, by rw [← HXZ.out]; exact h6', ?_⟩
          rw [← HXZ.out, HHD.out]
          by_cases h1 : 1 < t.size
          · right
            intro e
            have := Option.some.inj e
            exact hz ⟨h1, by rw [this]; rfl⟩
          · left; omega
        have hz' : t.size ≤ 1 ∨ (1 < t.size ∧ x0.toNat ≠ 48) := by omega
        obtain ⟨N, hN⟩ : ∃ N, dfold x = N := ⟨_, rfl⟩
        have HN := Lib.hid hN
        have hAt := fun w => atoi_t t x N HXL.out (digits_all HD.out) HXN.out h6' HN.out w
        have HAt := Lib.hid hAt
        clear hz hN hAt
        rcases hz' with hz | ⟨hz, hz2⟩
        · have q1 : decide ((1 : Int) < (t.size : Int)) = false := by simp; omega
          clear hz
          go_wp2_with fail
          refine (digits_any t true (by rw [HXL.out]; exact HD.out) _ (by omega)).mono ?_
          rintro e w4 ⟨rfl, hb4⟩
          go_wp2_with fail
          refine (HAt.out _).mono ?_
          rintro e w5 ⟨rfl, hb5⟩
          have hb45 := below_then hb4 hb5
          have hk5 : w5.cell? ⟨w2.heap.size, k, none⟩ = some (.int .i64 0) := by
            rw [hb45.cell (p := ⟨w2.heap.size, k, none⟩) hB8, HCS.out k hlt, if_neg (by omega)]; rfl
          have hf5 : w5.frozen? ⟨w2.heap.size, k, none⟩ = false := by
            rw [hb45.frozen (p := ⟨w2.heap.size, k, none⟩) hB8]; exact HFS.out k hlt
          go_wp2_with fail
          go_roundw
          case rel =>
            refine ⟨k + 1, by omega, by go_num, fun j hj => ?_, fun j hj => ?_, fun j hj => ?_, ?_, ?_, ?_⟩
            · by_cases hjk : j = k
              · subst hjk; rw [HGD.out]; exact HON.out
              · exact HOK.out j (by omega)
            · by_cases hjk : j = k
              · subst hjk
                rw [World.cell?_setCell_same _ _ _ hk5, if_pos (by omega), HGD.out, HN.out]
              · rw [World.cell?_setCell_other _ _ _ _ (by intro e; injection e with _ e2; exact hjk e2.symm), hb45.cell (p := ⟨w2.heap.size, j, none⟩) hB8, HCS.out j hj]
                by_cases h : j < k
                · rw [if_pos h, if_pos (by omega)]
                · rw [if_neg h, if_neg (by omega)]
            · have := HFS.out j hj
              have h2 : w5.frozen? ⟨w2.heap.size, j, none⟩ = false := by
                rw [hb45.frozen (p := ⟨w2.heap.size, j, none⟩) hB8]; exact this
              go_simp
            · exact (box_then hbr hb45).setCell (by show w.heap.size + 1 ≤ w2.heap.size; omega) _
            · exact (below_then hbr2 hb45).setCell (Nat.le_refl _) _
            · have := hb45.size; simp; omega
          case measure => simp [intOf]; omega
        · have q1 : decide ((1 : Int) < (t.size : Int)) = true := by simp; omega
          have q2 : ((x0.toNat : Int) == 48) = false := by simp; omega
          clear hz hz2
          go_wp2_with fail
          refine (digits_any t true (by rw [HXL.out]; exact HD.out) _ (by omega)).mono ?_
          rintro e w4 ⟨rfl, hb4⟩
          go_wp2_with fail
          refine (HAt.out _).mono ?_
          rintro e w5 ⟨rfl, hb5⟩
          have hb45 := below_then hb4 hb5
          have hk5 : w5.cell? ⟨w2.heap.size, k, none⟩ = some (.int .i64 0) := by
            rw [hb45.cell (p := ⟨w2.heap.size, k, none⟩) hB8, HCS.out k hlt, if_neg (by omega)]; rfl
          have hf5 : w5.frozen? ⟨w2.heap.size, k, none⟩ = false := by
            rw [hb45.frozen (p := ⟨w2.heap.size, k, none⟩) hB8]; exact HFS.out k hlt
          go_wp2_with fail
          go_roundw
          case rel =>
            refine ⟨k + 1, by omega, by go_num, fun j hj => ?_, fun j hj => ?_, fun j hj => ?_, ?_, ?_, ?_⟩
            · by_cases hjk : j = k
              · subst hjk; rw [HGD.out]; exact HON.out
              · exact HOK.out j (by omega)
            · by_cases hjk : j = k
              · subst hjk
                rw [World.cell?_setCell_same _ _ _ hk5, if_pos (by omega), HGD.out, HN.out]
              · rw [World.cell?_setCell_other _ _ _ _ (by intro e; injection e with _ e2; exact hjk e2.symm), hb45.cell (p := ⟨w2.heap.size, j, none⟩) hB8, HCS.out j hj]
                by_cases h : j < k
                · rw [if_pos h, if_pos (by omega)]
                · rw [if_neg h, if_neg (by omega)]
            · have := HFS.out j hj
              have h2 : w5.frozen? ⟨w2.heap.size, j, none⟩ = false := by
                rw [hb45.frozen (p := ⟨w2.heap.size, j, none⟩) hB8]; exact this
              go_simp
            · exact (box_then hbr hb45).setCell (by show w.heap.size + 1 ≤ w2.heap.size; omega) _
            · exact (below_then hbr2 hb45).setCell (Nat.le_refl _) _
            · have := hb45.size; simp; omega
          case measure => simp [intOf]; omega
      · obtain rfl : k = 3 := by omega
        obtain ⟨N0, h0⟩ : ∃ N, dfold (ls.getD 0 []) = N := ⟨_, rfl⟩
        obtain ⟨N1, h1⟩ : ∃ N, dfold (ls.getD 1 []) = N := ⟨_, rfl⟩
        obtain ⟨N2, h2⟩ : ∃ N, dfold (ls.getD 2 []) = N := ⟨_, rfl⟩
        have e0 := HCS.out 0 (by omega)
        have e1 := HCS.out 1 (by omega)
        have e2 := HCS.out 2 (by omega)
        rw [if_pos (by omega), h0] at e0
        rw [if_pos (by omega), h1] at e1
        rw [if_pos (by omega), h2] at e2
        have HNo : Hid (¬ IsShow N0 N1 N2 (preOf l) l → ParseIs l 0 0 0 [] 40) := by
          intro h
          refine parse_no_end rfl ?_
          unfold numAt
          rw [HLS.out, h0, h1, h2]; exact h
        have HYes : Hid (verOk N0 N1 N2 (preOf l) = true → ParseIs l N0 N1 N2 (preOf l) 0) := by
          intro h
          refine parse_yes ⟨h, ?_⟩
          have hd : Sem4.dots (coreOf l) = [ls.getD 0 [], ls.getD 1 [], ls.getD 2 []] := by
            rw [HLS.out]
            have h3 := H3.out
            rcases ls with _ | ⟨a, _ | ⟨b, _ | ⟨c, _ | ⟨d, r⟩⟩⟩⟩ <;> simp at h3 ⊢
          have := parse_is hd (HOK.out 0 (by omega)) (HOK.out 1 (by omega)) (HOK.out 2 (by omega)) HMP.out
          rw [h0, h1, h2] at this
          simpa using this
        clear h0 h1 h2
        have q3 : decide (3 < ls.length) = false := by simp; omega
        have q4 : decide ((3 : Int) < (ls.length : Int)) = false := by simp; omega
        go_wp2_with fail
        cases hok : verOk N0 N1 N2 (preOf l)
        · have HP := Lib.hid (HNo.out (by rintro ⟨h, _⟩; rw [hok] at h; cases h))
          refine (checkP_as N0 N1 N2 P 40 (by rw [HSP.out]; unfold verErr; rw [hok]; rfl) _ (HE3.out.alloc _) (by omega)).mono ?_
          rintro e w4 ⟨rfl, hb4⟩
          clear hok
          have hbE := box_then (hbr.alloc (by omega) (.cells #[.int .i64 (N0 : Int), .int .i64 (N1 : Int), .int .i64 (N2 : Int), .string P] 45)) hb4
          have c0 := box_cells hbE 0
          have c1 := box_cells hbE 1
          have c2 := box_cells hbE 2
          have c3 := box_cells hbE 3
          have f0 := box_free hbE 0
          have f1 := box_free hbE 1
          have f2 := box_free hbE 2
          have f3 := box_free hbE 3
          simp at c0 c1 c2 c3
          have hWE := below_first hbE
          go_wp2_with fail
          exact bodyPost_ret (v := .tuple #[.agg #[.int .i64 0, .int .i64 0, .int .i64 0, .string ⟨#[]⟩], .int .i64 40]) (by simp [results, Tryz.results34, go_sem, c0, c1, c2, c3]) rfl ⟨0, 0, 0, [], 40, rfl, HP.out, ((((hWE.setCell (Nat.le_refl _) _).setCell (Nat.le_refl _) _).setCell (Nat.le_refl _) _).setCell (Nat.le_refl _) _)⟩
        · have HP := Lib.hid (HYes.out hok)
          refine (checkP_as N0 N1 N2 P 0 (by rw [HSP.out]; unfold verErr; rw [hok]; rfl) _ (HE3.out.alloc _) (by omega)).mono ?_
          rintro e w4 ⟨rfl, hb4⟩
          clear hok
          have hbE := box_then (hbr.alloc (by omega) (.cells #[.int .i64 (N0 : Int), .int .i64 (N1 : Int), .int .i64 (N2 : Int), .string P] 45)) hb4
          have hbV := box_of hb4
          have v0 := box_cells hbV 0
          have v1 := box_cells hbV 1
          have v2 := box_cells hbV 2
          have v3 := box_cells hbV 3
          have c0 := box_cells hbE 0
          have c1 := box_cells hbE 1
          have c2 := box_cells hbE 2
          have c3 := box_cells hbE 3
          have f0 := box_free hbE 0
          have f1 := box_free hbE 1
          have f2 := box_free hbE 2
          have f3 := box_free hbE 3
          simp at c0 c1 c2 c3 v0 v1 v2 v3
          have hWE := below_first hbE
          have hne : wr.heap.size ≠ w.heap.size := by omega
          go_wp2_with fail
          exact bodyPost_ret (v := .tuple #[.agg #[.int .i64 (N0 : Int), .int .i64 (N1 : Int), .int .i64 (N2 : Int), .string P], .int .i64 0]) (by simp [results, Tryz.results34, go_sem, c0, c1, c2, c3]) rfl ⟨N0, N1, N2, preOf l, 0, by rw [← HSP.out]; rfl, HP.out, ((((hWE.setCell (Nat.le_refl _) _).setCell (Nat.le_refl _) _).setCell (Nat.le_refl _) _).setCell (Nat.le_refl _) _)⟩
end Go.Proofs.YtboajinaiceekaaGreatDoor

namespace Go.Proofs.YtboajinaiceekaaGreatDoor
open Go.RowKit
theorem itoa_keep (n : Nat) (w0 w : World) (hE : Env w0) (hn : n ≤ 999999) (A : ByteArray) (hA : S (dig10 n) = A) (B : Nat) (x y z : Value)
    (h : w.cell? ⟨B, 0, none⟩ = some x ∧ w.cell? ⟨B, 1, none⟩ = some y ∧ w.cell? ⟨B, 2, none⟩ = some z ∧ Below w0.heap.size w0 w) :
    Calls Tryz.prog 112 #[.int .i64 (n : Int)] w fun e w' => e = .returned (.string A) ∧
      (w'.cell? ⟨B, 0, none⟩ = some x ∧ w'.cell? ⟨B, 1, none⟩ = some y ∧ w'.cell? ⟨B, 2, none⟩ = some z ∧ Below w0.heap.size w0 w') := by
  subst hA
  obtain ⟨h0, h1, h2, h3⟩ := h
  refine (itoa_any n w (hE.below h3) hn).mono fun _ _ ⟨he, hb⟩ => ⟨he, ?_, ?_, ?_, below_then h3 hb⟩
  · exact (hb.cell (p := ⟨B, 0, none⟩) (cell_lt h0)).trans h0
  · exact (hb.cell (p := ⟨B, 1, none⟩) (cell_lt h1)).trans h1
  · exact (hb.cell (p := ⟨B, 2, none⟩) (cell_lt h2)).trans h2
set_option maxRecDepth 100000 in
set_option maxHeartbeats 1000000 in
theorem show_no (a b c : Int) (p : ByteArray) (w : World) (hE : Env w) (hs : p.size ≤ 9223372036854775807) (h : verErr a b c p.data.toList = 40) :
    Calls Tryz.prog 71 #[.agg #[.int .i64 a, .int .i64 b, .int .i64 c, .string p]] w fun e w' => e = .returned (.tuple #[.string ⟨#[]⟩, .int .i64 40]) ∧ Below w.heap.size w w' := by
  have H := Lib.hid h
  have HE := Lib.hid (hE.alloc (.cells #[.int .i64 a, .int .i64 b, .int .i64 c, .string p] 45))
  clear h hE
  go_enter Tryz.func71, Tryz.ntmps71
  go_wp2_with fail
  refine (checkP_as _ _ _ _ 40 H.out _ HE.out hs).mono ?_
  rintro e w1 ⟨rfl, hb1⟩
  have hbw := below_first (box_of hb1)
  go_wp2_with fail
  go_ret2
  exact ⟨rfl, hbw⟩
set_option maxRecDepth 100000 in
set_option maxHeartbeats 2000000 in
theorem show_yes (a b c : Nat) (p : ByteArray) (w : World) (hE : Env w) (hs : p.size ≤ 24) (ha : a ≤ 999999) (hb : b ≤ 999999) (hc : c ≤ 999999) (h : verErr a b c p.data.toList = 0) :
    Calls Tryz.prog 71 #[.agg #[.int .i64 (a : Int), .int .i64 (b : Int), .int .i64 (c : Int), .string p]] w fun e w' => e = .returned (.tuple #[.string (S (showL a b c p.data.toList)), .int .i64 0]) ∧ Below w.heap.size w w' := by
  have H := Lib.hid h
  have HE0 := Lib.hid hE
  have HE := Lib.hid (hE.alloc (.cells #[.int .i64 (a : Int), .int .i64 (b : Int), .int .i64 (c : Int), .string p] 45))
  clear h hE
  have sa := dig10_size a ha
  have sb := dig10_size b hb
  have sc := dig10_size c hc
  obtain ⟨A, hA⟩ : ∃ A, S (dig10 a) = A := ⟨_, rfl⟩
  obtain ⟨B, hB⟩ : ∃ B, S (dig10 b) = B := ⟨_, rfl⟩
  obtain ⟨C, hC⟩ : ∃ C, S (dig10 c) = C := ⟨_, rfl⟩
  have zA : A.size ≤ 7 := by rw [← hA, S_size]; exact sa
  have zB : B.size ≤ 7 := by rw [← hB, S_size]; exact sb
  have zC : C.size ≤ 7 := by rw [← hC, S_size]; exact sc
  have HA := Lib.hid hA
  have HB := Lib.hid hB
  have HC := Lib.hid hC
  clear hA hB hC sa sb sc
  have r1 : ∀ W, (Op.stringOp .add A ⟨#[46]⟩).run Tryz.prog W = .ok (.string (A ++ ⟨#[46]⟩)) W := fun W => run_string_add_sum W _ _ (by rw [show (⟨#[46]⟩ : ByteArray).size = 1 from rfl]; omega)
  have r2 : ∀ W, (Op.stringOp .add (A ++ ⟨#[46]⟩) B).run Tryz.prog W = .ok (.string (A ++ ⟨#[46]⟩ ++ B)) W := fun W => run_string_add_sum W _ _ (by rw [ByteArray.size_append, show (⟨#[46]⟩ : ByteArray).size = 1 from rfl]; omega)
  have r3 : ∀ W, (Op.stringOp .add (A ++ ⟨#[46]⟩ ++ B) ⟨#[46]⟩).run Tryz.prog W = .ok (.string (A ++ ⟨#[46]⟩ ++ B ++ ⟨#[46]⟩)) W := fun W => run_string_add_sum W _ _ (by rw [ByteArray.size_append, ByteArray.size_append, show (⟨#[46]⟩ : ByteArray).size = 1 from rfl]; omega)
  have r4 : ∀ W, (Op.stringOp .add (A ++ ⟨#[46]⟩ ++ B ++ ⟨#[46]⟩) C).run Tryz.prog W = .ok (.string (A ++ ⟨#[46]⟩ ++ B ++ ⟨#[46]⟩ ++ C)) W := fun W => run_string_add_sum W _ _ (by rw [ByteArray.size_append, ByteArray.size_append, ByteArray.size_append, show (⟨#[46]⟩ : ByteArray).size = 1 from rfl]; omega)
  go_enter Tryz.func71, Tryz.ntmps71
  go_wp2_with fail
  refine (checkP_as _ _ _ _ 0 H.out _ HE.out (by omega)).mono ?_
  rintro e w1 ⟨rfl, hb1⟩
  have hb2 := box_of hb1
  have hbw := below_first hb2
  have c0 := box_cells hb2 0
  have c1 := box_cells hb2 1
  have c2 := box_cells hb2 2
  have c3 := box_cells hb2 3
  simp at c0 c1 c2 c3
  clear hb1 hb2
  have hb0 : Below w1.heap.size w1 w1 := Below.refl _ _
  have hB0 := cell_lt c0
  have hE1 := Lib.hid (HE0.out.below hbw)
  go_wp2_with fail
  go_upto_region 4 with fail
  go_cut [5] (fun s wx => s = .string (A ++ ⟨#[46]⟩ ++ B ++ ⟨#[46]⟩ ++ C) ∧ Below w1.heap.size w1 wx)
  case first =>
    have hd0 : Below w1.heap.size w1 w1.drew := (Below.refl _ _).drew
    go_region_held3 (fun w' => w'.cell? ⟨w.heap.size, 0, none⟩ = some (.int .i64 (a : Int)) ∧ w'.cell? ⟨w.heap.size, 1, none⟩ = some (.int .i64 (b : Int)) ∧ w'.cell? ⟨w.heap.size, 2, none⟩ = some (.int .i64 (c : Int)) ∧ Below w1.heap.size w1 w') (go_keep)
      (first
        | (go_at_call_of 112 (Value.int .i64 (a : Int)); refine (itoa_keep a w1 _ hE1.out ha A HA.out w.heap.size _ _ _ (by assumption)).mono ?_; rintro e w2 ⟨rfl, hk1⟩)
        | (go_at_call_of 112 (Value.int .i64 (b : Int)); refine (itoa_keep b w1 _ hE1.out hb B HB.out w.heap.size _ _ _ (by assumption)).mono ?_; rintro e w2 ⟨rfl, hk2⟩)
        | (go_at_call_of 112 (Value.int .i64 (c : Int)); refine (itoa_keep c w1 _ hE1.out hc C HC.out w.heap.size _ _ _ (by assumption)).mono ?_; rintro e w2 ⟨rfl, hk3⟩))
    all_goals (go_wp2_with fail; go_meet; first | exact ⟨rfl, hk3.2.2.2⟩ | exact ⟨rfl, hk2.2.2.2⟩ | exact ⟨rfl, hk1.2.2.2⟩)
  case rest =>
    obtain ⟨rfl, hb5⟩ := hcut
    have c3' := (hb5.cell (p := ⟨w.heap.size, 3, none⟩) hB0).trans c3
    have hbw5 := below_then hbw hb5
    obtain ⟨T, hT⟩ : ∃ T, A ++ ⟨#[46]⟩ ++ B ++ ⟨#[46]⟩ ++ C = T := ⟨_, rfl⟩
    have hTs : T.size ≤ 30 := by
      rw [← hT, ByteArray.size_append, ByteArray.size_append, ByteArray.size_append, ByteArray.size_append, show (⟨#[46]⟩ : ByteArray).size = 1 from rfl]; omega
    have HT : Hid (T = S (showCore a b c)) := by
      show _ = _
      rw [← hT, ← HA.out, ← HB.out, ← HC.out]
      unfold showCore
      rw [← S_append, ← S_append, ← S_append, ← S_append]; rfl
    rw [hT]
    clear hT r1 r2 r3 r4 c0 c1 c2 c3 hbw hb5
    cases hem : p.toList.isEmpty
    · have HF : Hid (T ++ (⟨#[45]⟩ ++ p) = S (showL a b c p.data.toList)) := by
        show _ = _
        rw [Lib.toList_data] at hem
        unfold showL
        rw [HT.out, hem]
        simp only [Bool.false_eq_true, if_false]
        rw [← S_append, ← S_append, ByteArray.append_assoc]; rfl
      go_wp2_with fail
      go_ret2
      exact ⟨by rw [← HF.out]; rfl, hbw5⟩
    · have HF : Hid (T = S (showL a b c p.data.toList)) := by
        show _ = _
        rw [Lib.toList_data] at hem
        unfold showL
        rw [HT.out, hem]; rfl
      go_wp2_with fail
      go_ret2
      exact ⟨by rw [← HF.out]; rfl, hbw5⟩
end Go.Proofs.YtboajinaiceekaaGreatDoor

namespace Go.Proofs.YtboajinaiceekaaGreatDoor
open Go.RowKit
theorem or2_zero_right (a : Int) : or2 a 0 = a := by
  unfold or2; split <;> omega
def orL (xs : List Int) : Int := xs.foldr or2 0
theorem orL_step (xs : List Int) (k : Nat) (h : k < xs.length) : orL (xs.drop k) = or2 xs[k] (orL (xs.drop (k + 1))) := by
  rw [List.drop_eq_getElem_cons h]; rfl
theorem ints_new (w : World) (xs : List Int) (T : TypeId) (cap : Nat) (hn : 0 < xs.length) (hm : xs.length ≤ maxLen) : Ints (w.alloc (.cells (ints xs).toArray T)) (.slice (some ⟨w.heap.size, 0, none⟩) xs.length cap) xs := by
  refine ⟨by rw [ints_length]; omega, hm, .inr ⟨w.heap.size, 0, cap, rfl, hn, by simp, fun j hj => ?_⟩⟩
  simp only [World.cell?, Below_heap_new, Nat.zero_add, Option.isSome_none, Bool.false_eq_true, if_false]
  simp
def OrRel (xs : List Int) (i : Value) : Prop := ∃ k : Nat, k ≤ xs.length ∧ i = .int .i64 (k : Int) ∧ orL xs = orL (xs.drop k)
set_option maxRecDepth 100000 in
set_option maxHeartbeats 1000000 in
theorem or_any (v : Value) (xs : List Int) (w : World) (hv : Ints w v xs) (hn : 0 < xs.length) (hl : xs.length ≤ 1000) :
    Calls Tryz.prog 68 #[v] w fun e w' => e = .returned (.int .i64 (orL xs)) ∧ w = w' := by
  obtain ⟨_, ⟨_, _, _, rfl⟩ | ⟨bx, ox, cap, rfl, _, _, hc⟩⟩ := hv.cases
  · cases hn
  have HC := Lib.hid hc
  clear hc
  go_enter Tryz.func68, Tryz.ntmps68
  go_wp2_with fail
  go_loop [5, 8] (fun _ i => OrRel xs i) (fun _ i => xs.length - (intOf i).toNat)
  case atStart => exact ⟨0, Nat.zero_le _, rfl, rfl⟩
  case round =>
    obtain ⟨k, hk, rfl, ho⟩ := hrel
    have HO := Lib.hid ho
    clear ho
    by_cases hlt : k < xs.length
    · have cx := HC.out k hlt
      have i1 : (k : Int) < (xs.length : Int) := by omega
      have HS := Lib.hid (orL_step xs k hlt)
      obtain ⟨r, hr⟩ : ∃ r, xs[k] = r := ⟨_, rfl⟩
      rw [hr] at cx HS
      clear hr
      by_cases hz : r = 0
      · have q : (r != 0) = false := by simpa using hz
        have HZ := Lib.hid hz
        clear hz
        go_wp2_with fail
        go_round
        case rel => exact ⟨k + 1, by omega, by go_num, by rw [HO.out, HS.out, HZ.out]; rfl⟩
        case measure => simp [intOf]; omega
      · have q : (r != 0) = true := by simpa using hz
        have HF := Lib.hid (show orL xs = r by rw [HO.out, HS.out, or2_ne hz])
        clear hz
        go_wp2_with fail
        go_ret
        exact ⟨by rw [HF.out]; rfl, rfl⟩
    · have q : decide (k < xs.length) = false := by simp; omega
      obtain rfl : k = xs.length := by omega
      have HF := Lib.hid (show orL xs = 0 by rw [HO.out, List.drop_length]; rfl)
      go_wp2_with fail
      go_ret
      exact ⟨by rw [HF.out]; rfl, rfl⟩
theorem or_new (w : World) (xs : List Int) (T : TypeId) (cap : Nat) (n : Nat) (cs : Array Value) (hcs : cs = (ints xs).toArray) (hn' : n = xs.length) (hn : 0 < xs.length) (hl : xs.length ≤ 1000) :
    Calls Tryz.prog 68 #[.slice (some ⟨w.heap.size, 0, none⟩) n cap] (w.alloc (.cells cs T)) fun e w' => e = .returned (.int .i64 (orL xs)) ∧ w.alloc (.cells cs T) = w' := by
  subst hcs hn'
  exact or_any _ xs _ (ints_new w xs T cap hn (by unfold maxLen; omega)) hn hl
set_option maxRecDepth 100000 in
set_option maxHeartbeats 1000000 in
theorem number_any (a b : List UInt8) (w : World) (ha : a.length ≤ 100000) (hb : b.length ≤ 100000) :
    Calls Tryz.prog 110 #[.string (S a), .string (S b)] w fun e w' => e = .returned (.int .i64 (numCmp a b)) ∧ Below w.heap.size w w' := by
  obtain ⟨x, hx⟩ : ∃ x, Lib.trimLeftB a 48 = x := ⟨_, rfl⟩
  obtain ⟨y, hy⟩ : ∃ y, Lib.trimLeftB b 48 = y := ⟨_, rfl⟩
  have lx : x.length ≤ 100000 := by rw [← hx]; exact Nat.le_trans (List.dropWhile_sublist _).length_le ha
  have ly : y.length ≤ 100000 := by rw [← hy]; exact Nat.le_trans (List.dropWhile_sublist _).length_le hb
  have HE : Hid (numCmp a b = orL [ord (x.length : Int) (y.length : Int), txt x y]) := by
    show _ = _
    unfold numCmp orL
    rw [hx, hy]
    simp only [List.foldr_cons, List.foldr_nil, or2_zero_right]
  have TA := fun w => trimLeft_any a w
  have TB := fun w => trimLeft_any b w
  rw [hx] at TA
  rw [hy] at TB
  have HA := Lib.hid TA
  have HB := Lib.hid TB
  have CI := Lib.hid (fun w => cmpInt_any (x.length : Int) (y.length : Int) w)
  have CS := Lib.hid (fun w => compare_any x y w)
  obtain ⟨o, ho⟩ : ∃ o, ord (x.length : Int) (y.length : Int) = o := ⟨_, rfl⟩
  obtain ⟨t, ht⟩ : ∃ t, txt x y = t := ⟨_, rfl⟩
  rw [ho, ht] at HE
  rw [ho] at CI
  rw [ht] at CS
  clear TA TB hx hy ho ht
  have sx : (S x).size = x.length := S_size x
  have sy : (S y).size = y.length := S_size y
  rw [← sx, ← sy] at CI
  clear sx sy
  go_enter Tryz.func110, Tryz.ntmps110
  go_wp2_with fail
  refine (HA.out _).mono ?_
  rintro e w1 ⟨rfl, rfl⟩
  go_wp2_with fail
  refine (HB.out _).mono ?_
  rintro e w1 ⟨rfl, rfl⟩
  go_wp2_with fail
  refine (CI.out _).mono ?_
  rintro e w1 ⟨rfl, rfl⟩
  go_wp2_with fail
  refine (CS.out _).mono ?_
  rintro e w1 ⟨rfl, rfl⟩
  go_wp2_with fail
  refine (or_new _ [o, t] _ _ _ _ rfl rfl (by simp) (by simp)).mono ?_
  rintro e w1 ⟨rfl, rfl⟩
  go_wp2_with fail
  go_ret
  exact ⟨by rw [HE.out]; rfl, (Below.refl _ _).alloc (Nat.le_refl _) _⟩
set_option maxRecDepth 100000 in
set_option maxHeartbeats 1000000 in
theorem partsP_any (a b : List UInt8) (w : World) (ha : a.length ≤ 100000) (hb : b.length ≤ 100000) :
    Calls Tryz.prog 70 #[.string (S a), .string (S b)] w fun e w' => e = .returned (.int .i64 (partsCmp a b)) ∧ Below w.heap.size w w' := by
  have za : (S a).size ≤ 9223372036854775807 := by rw [S_size]; omega
  have zb : (S b).size ≤ 9223372036854775807 := by rw [S_size]; omega
  have hpc := partsCmp_num a b
  cases hA : Sem4.digits a <;> cases hB : Sem4.digits b
  all_goals
    rw [hA, hB] at hpc
    simp only [Bool.false_eq_true, if_false, if_true] at hpc
    have HA := Lib.hid hA
    have HB := Lib.hid hB
    have HE := Lib.hid hpc
    clear hA hB hpc
    go_enter Tryz.func70, Tryz.ntmps70
    go_wp2_with fail
    refine (digits_any (S a) _ HA.out _ za).mono ?_
    rintro e w1 ⟨rfl, hb1⟩
    go_wp2_with fail
    refine (digits_any (S b) _ HB.out _ zb).mono ?_
    rintro e w2 ⟨rfl, hb2⟩
    have hb12 := below_then hb1 hb2
    go_wp2_with fail
    first
      | (refine (compare_any a b _).mono ?_
         rintro e w3 ⟨rfl, rfl⟩
         go_wp2_with fail
         go_ret
         exact ⟨by rw [HE.out]; rfl, hb12⟩)
      | (refine (number_any a b _ ha hb).mono ?_
         rintro e w3 ⟨rfl, hb3⟩
         go_wp2_with fail
         go_ret
         exact ⟨by rw [HE.out]; rfl, below_then hb12 hb3⟩)
      | (go_ret
         exact ⟨by rw [HE.out]; rfl, hb12⟩)
end Go.Proofs.YtboajinaiceekaaGreatDoor

namespace Go.Proofs.YtboajinaiceekaaGreatDoor
open Go.RowKit
theorem cmpInt_still (a b r : Int) (h : ord a b = r) (w : World) :
    Calls Tryz.prog 69 #[.int .i64 a, .int .i64 b] w fun e w' => e = .returned (.int .i64 r) ∧ w' = w :=
  (cmpInt_any a b w).mono fun _ _ ⟨h1, h2⟩ => ⟨by rw [h1, h], h2.symm⟩
theorem ord_self_zero {a b : Int} (h : ord a b = 0) : a = b := by
  unfold ord at h
  split at h
  · omega
  · split at h <;> omega
theorem toList_inj {p q : ByteArray} (h : p.toList = q.toList) : p = q := by
  rw [Lib.toList_data, Lib.toList_data] at h
  exact ByteArray.ext (Array.toList_inj.1 h)
/-- two versions, one? -/
theorem ver_eq (a b c : Int) (p : ByteArray) (a' b' c' : Int) (p' : ByteArray) (r : Bool) (hr : r = decide (a = a' ∧ b = b' ∧ c = c' ∧ p = p')) (W : World) :
    (Op.equalIn 10000 45 (.agg #[.int .i64 a, .int .i64 b, .int .i64 c, .string p]) (.agg #[.int .i64 a', .int .i64 b', .int .i64 c', .string p'])).run Tryz.prog W = .ok r W := by
  subst hr
  go_simp
  by_cases h1 : a = a'
  · by_cases h2 : b = b'
    · by_cases h3 : c = c'
      · by_cases h4 : p.toList = p'.toList
        · have h5 := toList_inj h4
          subst h5
          simp [h1, h2, h3]
        · have h5 : p ≠ p' := fun e => h4 (by rw [e])
          simp [h1, h2, h3, h4, h5]
      · simp [h1, h2, h3]
    · simp [h1, h2]
  · simp [h1]
theorem bytesLess_self (l : List UInt8) : Op.bytesLess l l = false := by
  induction l with
  | nil => rfl
  | cons a l ih => rw [Op.bytesLess, ih]; simp
theorem txt_self (l : List UInt8) : txt l l = 0 := by unfold txt; rw [bytesLess_self]; simp
theorem partsCmp_self (l : List UInt8) : partsCmp l l = 0 := by
  unfold partsCmp
  split <;> simp [txt_self]
theorem lcmp_self : ∀ ls : List (List UInt8), lcmp ls ls = 0
  | [] => rfl
  | x :: xs => by rw [lcmp, partsCmp_self, or2_zero, lcmp_self xs]
theorem cmpV_self (a b c : Int) (p : List UInt8) : cmpV a b c p a b c p = 0 := by
  unfold cmpV cmp3 cmpPre
  rw [ord_eq, ord_eq, ord_eq, or2_zero, or2_zero, or2_zero, lcmp_self]
  cases p.isEmpty <;> rfl
theorem split_keep (s : ByteArray) (w0 w : World) (hE : Env w0) (hs : s.size ≤ 300) (B : Nat) (x y : Value)
    (h : w.cell? ⟨B, 3, none⟩ = some x ∧ w.cell? ⟨B + 1, 3, none⟩ = some y ∧ Below w0.heap.size w0 w) :
    Calls Tryz.prog 59 #[.string s, .string ⟨#[46]⟩] w fun e w' => ∃ v, e = .returned v ∧ Strs w' v (Sem4.dots s.data.toList) ∧ Below w.heap.size w w' ∧
      (w'.cell? ⟨B, 3, none⟩ = some x ∧ w'.cell? ⟨B + 1, 3, none⟩ = some y ∧ Below w0.heap.size w0 w') :=
  (split_any s w (hE.below h.2.2) (by omega)).mono fun _ _ ⟨v, h1, h2, h3⟩ => ⟨v, h1, h2, h3, (h3.cell (p := ⟨B, 3, none⟩) (cell_lt h.1)).trans h.1, (h3.cell (p := ⟨B + 1, 3, none⟩) (cell_lt h.2.1)).trans h.2.1, below_then h.2.2 h3⟩
theorem or_drew (w : World) (xs : List Int) (T : TypeId) (cap n B : Nat) (cs : Array Value) (hB : B = w.heap.size) (hcs : cs = (ints xs).toArray) (hn' : n = xs.length) (hn : 0 < xs.length) (hl : xs.length ≤ 1000) :
    Calls Tryz.prog 68 #[.slice (some ⟨B, 0, none⟩) n cap] (w.alloc (.cells cs T)).drew fun e w' => e = .returned (.int .i64 (orL xs)) ∧ (w.alloc (.cells cs T)).drew = w' := by
  subst hB hcs hn'
  exact or_any _ xs _ ((ints_new w xs T cap hn (by unfold maxLen; omega)).below ((Below.refl _ _).drew) (Nat.le_refl _)) hn hl
def LRelP (xs ys : List (List UInt8)) (w : World) (i : Value) (wr : World) : Prop := ∃ k : Nat, k ≤ xs.length ∧ k ≤ ys.length ∧ i = .int .i64 (k : Int) ∧ lcmp xs ys = lcmp (xs.drop k) (ys.drop k) ∧ Below w.heap.size w wr
set_option maxRecDepth 100000 in
set_option maxHeartbeats 2000000 in
theorem cmpP_any (a b c : Int) (p : ByteArray) (a' b' c' : Int) (p' : ByteArray) (w : World) (hE : Env w) (hp : p.size ≤ 300) (hp' : p'.size ≤ 300) :
    Calls Tryz.prog 41 #[.agg #[.int .i64 a, .int .i64 b, .int .i64 c, .string p], .agg #[.int .i64 a', .int .i64 b', .int .i64 c', .string p']] w fun e w' =>
      e = .returned (.int .i64 (cmpV a b c p.data.toList a' b' c' p'.data.toList)) ∧ Below w.heap.size w w' := by
  have hVE := fun W => ver_eq a b c p a' b' c' p' _ rfl W
  obtain ⟨r, hr⟩ : ∃ r, decide (a = a' ∧ b = b' ∧ c = c' ∧ p = p') = r := ⟨_, rfl⟩
  rw [hr] at hVE
  have HR := Lib.hid hr
  have HE0 := Lib.hid hE
  have hW := ((Below.refl w.heap.size w).alloc (Nat.le_refl _) (.cells #[.int .i64 a, .int .i64 b, .int .i64 c, .string p] 45)).alloc (by simp) (.cells #[.int .i64 a', .int .i64 b', .int .i64 c', .string p'] 45)
  clear hr hE
  cases r
  case true =>
    have HZ : Hid (cmpV a b c p.data.toList a' b' c' p'.data.toList = 0) := by
      show _ = _
      obtain ⟨rfl, rfl, rfl, rfl⟩ := of_decide_eq_true HR.out
      exact cmpV_self _ _ _ _
    go_enter Tryz.func41, Tryz.ntmps41
    go_wp2_with fail
    go_ret
    exact ⟨by rw [HZ.out]; rfl, hW⟩
  obtain ⟨o0, h0⟩ : ∃ o, ord a a' = o := ⟨_, rfl⟩
  obtain ⟨o1, h1⟩ : ∃ o, ord b b' = o := ⟨_, rfl⟩
  obtain ⟨o2, h2⟩ : ∃ o, ord c c' = o := ⟨_, rfl⟩
  obtain ⟨o, ho⟩ : ∃ o, orL [o0, o1, o2] = o := ⟨_, rfl⟩
  have HV : Hid (cmpV a b c p.data.toList a' b' c' p'.data.toList = or2 o (cmpPre p.data.toList p'.data.toList)) := by
    show _ = _
    rw [← ho]
    unfold cmpV cmp3 orL; rw [h0, h1, h2]
    simp only [List.foldr_cons, List.foldr_nil, or2_zero_right]
  have HPP : Hid (o = 0 → p ≠ p') := by
    rintro rfl rfl
    have hall : o0 = 0 ∧ o1 = 0 ∧ o2 = 0 := by
      unfold orL at ho
      simp only [List.foldr_cons, List.foldr_nil, or2_zero_right] at ho
      unfold or2 at ho
      split at ho
      · split at ho
        · exact ⟨by assumption, by assumption, ho⟩
        · exact absurd ho (by assumption)
      · exact absurd ho (by assumption)
    obtain ⟨rfl, rfl, rfl⟩ := hall
    have := of_decide_eq_false HR.out
    exact this ⟨ord_self_zero h0, ord_self_zero h1, ord_self_zero h2, rfl⟩
  have H0 := Lib.hid h0
  have H1 := Lib.hid h1
  have H2 := Lib.hid h2
  have HO := Lib.hid ho
  clear h0 h1 h2 ho
  have hW2 := hW.alloc (by simp; omega) (.cells #[.int .i64 o0, .int .i64 o1, .int .i64 o2] 3)
  go_enter Tryz.func41, Tryz.ntmps41
  go_wp2_with fail
  refine region_still_tail 15 (by kernel_rfl) (by kernel_rfl) ?_
  simp only [List.take_succ_cons, List.take_zero, List.drop_succ_cons, List.drop_zero]
  repeat still_step
  still_call (cmpInt_still _ _ _ H0.out _)
  repeat still_step
  still_call (cmpInt_still _ _ _ H1.out _)
  repeat still_step
  still_call (cmpInt_still _ _ _ H2.out _)
  repeat still_step
  refine wpStill_nil ?_
  clear hVE
  go_wp2_with fail
  refine (or_drew _ [o0, o1, o2] _ _ _ _ #[.int .i64 o0, .int .i64 o1, .int .i64 o2] (by simp) rfl rfl (by simp) (by simp)).mono ?_
  rintro e w1 ⟨rfl, rfl⟩
  rw [HO.out]
  by_cases hz : o = 0
  case neg =>
    have q : (o != 0) = true := by simpa using hz
    have HE := Lib.hid (show cmpV a b c p.data.toList a' b' c' p'.data.toList = o by rw [HV.out, or2_ne hz])
    clear hz
    go_wp2_with fail
    go_ret
    exact ⟨by rw [HE.out]; rfl, hW2.drew⟩
  subst hz
  have HPN := Lib.hid (HPP.out rfl)
  have hV := HV.out
  rw [or2_zero] at hV
  unfold cmpPre at hV
  rw [← Lib.toList_data, ← Lib.toList_data] at hV
  cases hem : p.toList.isEmpty
  case true =>
    have hem' : p'.toList.isEmpty = false := by
      cases h : p'.toList.isEmpty
      · rfl
      · exfalso
        apply HPN.out
        apply toList_inj
        rw [List.isEmpty_iff] at hem h
        rw [hem, h]
    rw [hem, hem'] at hV
    have HE := Lib.hid hV
    clear hV hem'
    go_wp2_with fail
    go_ret
    exact ⟨by rw [Lib.toList_data, Lib.toList_data] at HE; rw [HE.out]; rfl, hW2.drew⟩
  cases hem' : p'.toList.isEmpty
  case true =>
    rw [hem, hem'] at hV
    have HE := Lib.hid hV
    clear hV
    go_wp2_with fail
    go_ret
    exact ⟨by rw [Lib.toList_data, Lib.toList_data] at HE; rw [HE.out]; rfl, hW2.drew⟩
  rw [hem, hem', Lib.toList_data, Lib.toList_data] at hV
  have HE := Lib.hid (show cmpV a b c p.data.toList a' b' c' p'.data.toList = lcmp (Sem4.dots p.data.toList) (Sem4.dots p'.data.toList) from hV)
  clear hV
  go_wp2_with fail
  go_upto_region 10 with fail
  have hWW := hW2.drew
  have k3 : ((((w.alloc (.cells #[.int .i64 a, .int .i64 b, .int .i64 c, .string p] 45)).alloc (.cells #[.int .i64 a', .int .i64 b', .int .i64 c', .string p'] 45)).alloc (.cells #[.int .i64 o0, .int .i64 o1, .int .i64 o2] 3)).drew).cell? ⟨w.heap.size, 3, none⟩ = some (.string p) := by go_simp
  have k3' : ((((w.alloc (.cells #[.int .i64 a, .int .i64 b, .int .i64 c, .string p] 45)).alloc (.cells #[.int .i64 a', .int .i64 b', .int .i64 c', .string p'] 45)).alloc (.cells #[.int .i64 o0, .int .i64 o1, .int .i64 o2] 3)).drew).cell? ⟨w.heap.size + 1, 3, none⟩ = some (.string p') := by go_simp
  generalize ((((w.alloc (.cells #[.int .i64 a, .int .i64 b, .int .i64 c, .string p] 45)).alloc (.cells #[.int .i64 a', .int .i64 b', .int .i64 c', .string p'] 45)).alloc (.cells #[.int .i64 o0, .int .i64 o1, .int .i64 o2] 3)).drew) = W at hWW k3 k3' ⊢
  go_cut [6, 7] (fun v u wx => Strs wx v (Sem4.dots p.data.toList) ∧ Strs wx u (Sem4.dots p'.data.toList) ∧ Below w.heap.size w wx)
  case first =>
    have hd0 := hWW.drew
    go_region_held3 (fun w' => w'.cell? ⟨w.heap.size, 3, none⟩ = some (.string p) ∧ w'.cell? ⟨w.heap.size + 1, 3, none⟩ = some (.string p') ∧ Below w.heap.size w w') (go_keep)
      (first
        | (go_at_call_of 59 (Value.string p); refine (split_keep p w _ HE0.out hp w.heap.size _ _ (by assumption)).mono ?_; rintro e w1 ⟨v1, rfl, hv1, hb1, hk1⟩)
        | (go_at_call_of 59 (Value.string p'); refine (split_keep p' w _ HE0.out hp' w.heap.size _ _ (by assumption)).mono ?_; rintro e w2 ⟨v2, rfl, hv2, hb2, hk2⟩))
    all_goals (go_wp2_with fail; go_meet; first | exact ⟨hv1.below hb2 (Nat.le_refl _), hv2, hk2.2.2⟩ | exact ⟨hv1, hv2.below hb1 (Nat.le_refl _), hk1.2.2⟩)
  case rest =>
    obtain ⟨hv, hu, hbw⟩ := hcut
    obtain ⟨xs, hxs⟩ : ∃ xs, Sem4.dots p.data.toList = xs := ⟨_, rfl⟩
    obtain ⟨ys, hys⟩ : ∃ ys, Sem4.dots p'.data.toList = ys := ⟨_, rfl⟩
    have hx0 : 0 < xs.length := by rw [← hxs]; exact List.length_pos_iff.2 (Sem4.dots_ne _)
    have hy0 : 0 < ys.length := by rw [← hys]; exact List.length_pos_iff.2 (Sem4.dots_ne _)
    have hx1 : xs.length ≤ 301 := by have := dots_len p.data.toList; rw [hxs, ← Lib.size_eq] at this; omega
    have hy1 : ys.length ≤ 301 := by have := dots_len p'.data.toList; rw [hys, ← Lib.size_eq] at this; omega
    have HXs := Lib.hid (show ∀ l ∈ xs, l.length ≤ 300 from fun l hl => by rw [← hxs] at hl; have := dots_part_size _ l hl; rw [← Lib.size_eq] at this; omega)
    have HYs := Lib.hid (show ∀ l ∈ ys, l.length ≤ 300 from fun l hl => by rw [← hys] at hl; have := dots_part_size _ l hl; rw [← Lib.size_eq] at this; omega)
    rw [hxs] at hv
    rw [hys] at hu
    obtain ⟨bx, ox, capx, rfl, hbx, hcx⟩ := hv.full hx0
    obtain ⟨by', oy, capy, rfl, hby, hcy⟩ := hu.full hy0
    have HE2 : Hid (cmpV a b c p.data.toList a' b' c' p'.data.toList = lcmp xs ys) := by
      show _ = _
      rw [HE.out, hxs, hys]
    have HCX := Lib.hid hcx
    have HCY := Lib.hid hcy
    clear hcx hcy hv hu hxs hys HE
    go_wp2_with fail
    have hmn : (min (xs.length : Int) (ys.length : Int)) = ((min xs.length ys.length : Nat) : Int) := by omega
    rw [hmn]
    obtain ⟨mn, hmn2⟩ : ∃ m, min xs.length ys.length = m := ⟨_, rfl⟩
    rw [hmn2]
    have mx : mn ≤ xs.length := by omega
    have my : mn ≤ ys.length := by omega
    have HMN := Lib.hid (show mn = xs.length ∨ mn = ys.length by omega)
    clear hmn hmn2
    go_loopw [8, 9, 52] (fun _ _ i wr => LRelP xs ys wc i wr) (fun _ _ i _ => mn - (intOf i).toNat)
    case atStart => exact ⟨0, Nat.zero_le _, Nat.zero_le _, rfl, rfl, Below.refl _ _⟩
    case round =>
      obtain ⟨k, hkx, hky, rfl, hl, hbr⟩ := hrel
      have HL := Lib.hid hl
      clear hl
      by_cases hlt : k < mn
      · have hx : k < xs.length := by omega
        have hy : k < ys.length := by omega
        have i0 : (0 : Int) ≤ (k : Int) := by omega
        have i1 : (k : Int) < (xs.length : Int) := by omega
        have i2 : (k : Int) < (ys.length : Int) := by omega
        have cx := (hbr.cell (p := ⟨bx, ox + k, none⟩) hbx).trans (HCX.out k hx)
        have cy := (hbr.cell (p := ⟨by', oy + k, none⟩) hby).trans (HCY.out k hy)
        obtain ⟨r, hr⟩ : ∃ r, partsCmp xs[k] ys[k] = r := ⟨_, rfl⟩
        have HR2 := Lib.hid hr
        have HS := Lib.hid (lcmp_step hx hy)
        have s1 := HXs.out _ (List.getElem_mem hx)
        have s2 := HYs.out _ (List.getElem_mem hy)
        clear hr
        go_wp2_with fail
        refine region_still_tail 8 (by kernel_rfl) (by kernel_rfl) ?_
        simp only [List.take_succ_cons, List.take_zero, List.drop_succ_cons, List.drop_zero]
        repeat still_step
        refine wpStill_nil ?_
        go_wp2_with fail
        refine (partsP_any xs[k] ys[k] _ (by omega) (by omega)).mono ?_
        rintro e w1 ⟨rfl, hb1⟩
        rw [HR2.out]
        have hb2 := below_then hbr.drew hb1
        by_cases hz : r = 0
        · have hq : (r != 0) = false := by simpa using hz
          have HZ := Lib.hid hz
          clear hz
          go_wp2_with fail
          go_roundw
          case rel =>
            refine ⟨k + 1, hx, hy, by go_num, ?_, hb2⟩
            rw [HL.out, HS.out, HR2.out, HZ.out, or2_zero]
          case measure => simp [intOf]; omega
        · have hq : (r != 0) = true := by simpa using hz
          have HF : Hid (cmpV a b c p.data.toList a' b' c' p'.data.toList = r) := by
            show _ = _
            rw [HE2.out, HL.out, HS.out, HR2.out, or2_ne hz]
          clear hz
          go_wp2_with fail
          go_ret
          exact ⟨by rw [HF.out]; rfl, below_then hbw hb2⟩
      · have q : decide (k < mn) = false := by simp; omega
        have HO2 := Lib.hid (lcmp_end hkx hky (by have := HMN.out; omega))
        clear hlt
        go_wp2_with fail
        refine (cmpInt_any _ _ _).mono ?_
        rintro e w1 ⟨rfl, rfl⟩
        go_wp2_with fail
        go_ret
        exact ⟨by rw [HE2.out, HL.out, HO2.out]; rfl, below_then hbw hbr⟩
end Go.Proofs.YtboajinaiceekaaGreatDoor
