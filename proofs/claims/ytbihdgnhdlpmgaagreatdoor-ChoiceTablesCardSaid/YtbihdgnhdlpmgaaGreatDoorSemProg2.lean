/- The program's versions: Check: a walk. -/
import Derived.Test.YtbihdgnhdlpmgaaGreatDoorSemProg1
namespace Go.Proofs.YtbihdgnhdlpmgaaGreatDoor
open Go.RowKit
theorem partP_as (s : ByteArray) (b : Bool) (h : Sem4.part s.data.toList = b) (w : World) (hs : s.size ≤ 9223372036854775807) :
    Calls Tryz.prog 51 #[.string s] w fun e w' => e = .returned (.bool b) ∧ Below w.heap.size w w' := by
  subst h; exact part_any s w hs
def NRel (a b c : Int) (i : Value) : Prop := i = .int .i64 0 ∨ (i = .int .i64 1 ∧ numOk a = true) ∨ (i = .int .i64 2 ∧ numOk a = true ∧ numOk b = true) ∨ (i = .int .i64 3 ∧ numOk a = true ∧ numOk b = true ∧ numOk c = true)
def ChkRelW (ls : List (List UInt8)) (w : World) (i : Value) (wr : World) : Prop := ∃ k : Nat, k ≤ ls.length ∧ i = .int .i64 (k : Int) ∧ (ls.take k).all Sem4.part = true ∧ Below w.heap.size w wr
theorem numOk_cases (n : Int) : (numOk n = true ∧ 0 ≤ n ∧ n ≤ 999999) ∨ (numOk n = false ∧ n < 0) ∨ (numOk n = false ∧ 0 ≤ n ∧ 999999 < n) := by
  unfold numOk
  by_cases h : 0 ≤ n <;> by_cases h' : n ≤ 999999 <;> simp [h, h'] <;> omega
theorem verErr_num {a b c : Int} (p : List UInt8) (h : numOk a = false ∨ numOk b = false ∨ numOk c = false) : verErr a b c p = 40 := by
  unfold verErr verOk
  rcases h with h | h | h <;> rw [h] <;> simp
set_option maxRecDepth 100000 in
set_option maxHeartbeats 2000000 in
theorem check_any (a b c : Int) (p : ByteArray) (w : World) (hE : Env w) (hs : p.size ≤ 9223372036854775807) :
    Calls Tryz.prog 21 #[.agg #[.int .i64 a, .int .i64 b, .int .i64 c, .string p]] w fun e w' => e = .returned (.int .i64 (verErr a b c p.data.toList)) ∧ Below w.heap.size w w' := by
  have HEnv := Lib.hid hE
  clear hE
  have hW := ((Below.refl w.heap.size w).alloc (Nat.le_refl _) (.cells #[.int .i64 a, .int .i64 b, .int .i64 c, .string p] 46)).alloc (by simp) (.cells #[.int .i64 a, .int .i64 b, .int .i64 c] 3)
  go_enter Tryz.func21, Tryz.ntmps21
  go_wp2_with fail
  go_loop [4, 15] (fun _ i => NRel a b c i) (fun _ i => 3 - (intOf i).toNat)
  case atStart => exact .inl rfl
  case round =>
    rcases hrel with rfl | ⟨rfl, ha⟩ | ⟨rfl, ha, hb⟩ | ⟨rfl, ha, hb, hc⟩
    · rcases numOk_cases a with ⟨h, h0, h1⟩ | ⟨h, h0⟩ | ⟨h, h0, h1⟩
      · have H := Lib.hid h
        clear h
        go_wp2_with fail
        go_round
        case rel => exact .inr (.inl ⟨rfl, H.out⟩)
        case measure => simp [intOf]
      all_goals
        have HE := Lib.hid (verErr_num (a := a) (b := b) (c := c) p.data.toList (.inl h))
        clear h
        go_wp2_with fail
        go_ret
        exact ⟨by rw [HE.out]; rfl, hW⟩
    · have HA := Lib.hid ha
      clear ha
      rcases numOk_cases b with ⟨h, h0, h1⟩ | ⟨h, h0⟩ | ⟨h, h0, h1⟩
      · have H := Lib.hid h
        clear h
        go_wp2_with fail
        go_round
        case rel => exact .inr (.inr (.inl ⟨rfl, HA.out, H.out⟩))
        case measure => simp [intOf]
      all_goals
        have HE := Lib.hid (verErr_num (a := a) (b := b) (c := c) p.data.toList (.inr (.inl h)))
        clear h
        go_wp2_with fail
        go_ret
        exact ⟨by rw [HE.out]; rfl, hW⟩
    · have HA := Lib.hid ha
      have HB := Lib.hid hb
      clear ha hb
      rcases numOk_cases c with ⟨h, h0, h1⟩ | ⟨h, h0⟩ | ⟨h, h0, h1⟩
      · have H := Lib.hid h
        clear h
        go_wp2_with fail
        go_round
        case rel => exact .inr (.inr (.inr ⟨rfl, HA.out, HB.out, H.out⟩))
        case measure => simp [intOf]
      all_goals
        have HE := Lib.hid (verErr_num (a := a) (b := b) (c := c) p.data.toList (.inr (.inr h)))
        clear h
        go_wp2_with fail
        go_ret
        exact ⟨by rw [HE.out]; rfl, hW⟩
    · have HV : Hid (verErr a b c p.data.toList = if decide (p.size ≤ 24) && preOk p.data.toList then 0 else 40) := by
        show _ = _
        unfold verErr verOk
        rw [ha, hb, hc, ← Lib.size_eq]; rfl
      clear ha hb hc
      by_cases h6 : 24 < p.size
      · have q6 : decide ((24 : Int) < (p.size : Int)) = true := by simp; omega
        have HE : Hid (verErr a b c p.data.toList = 40) := by
          show _ = _
          rw [HV.out, if_neg (by simp; omega)]
        clear h6
        go_wp2_with fail
        go_ret
        exact ⟨by rw [HE.out]; rfl, hW⟩
      have q6 : decide ((24 : Int) < (p.size : Int)) = false := by simp; omega
      have hps : p.size ≤ 24 := by omega
      have HV1 : Hid (verErr a b c p.data.toList = if preOk p.data.toList then 0 else 40) := by
        show _ = _
        rw [HV.out, decide_eq_true hps]; rfl
      clear h6
      cases hem : p.toList.isEmpty
      case true =>
        have HE : Hid (verErr a b c p.data.toList = 0) := by
          show _ = _
          rw [HV1.out, ← Lib.toList_data]; unfold preOk; rw [hem]; rfl
        go_wp2_with fail
        go_ret
        exact ⟨by rw [HE.out]; rfl, hW⟩
      obtain ⟨ls, hls⟩ : ∃ ls, Sem4.dots p.data.toList = ls := ⟨_, rfl⟩
      have hln : 0 < ls.length := by rw [← hls]; exact List.length_pos_iff.2 (Sem4.dots_ne _)
      have hlen : ls.length ≤ 25 := by
        have := dots_len p.data.toList
        rw [hls, ← Lib.size_eq] at this; omega
      have HSZ : Hid (∀ l ∈ ls, l.length ≤ 24) := by
        intro l hl
        rw [← hls] at hl
        have := dots_part_size _ l hl
        rw [← Lib.size_eq] at this; omega
      have HV2 : Hid (verErr a b c p.data.toList = if ls.all Sem4.part then 0 else 40) := by
        show _ = _
        rw [HV1.out]; unfold preOk
        rw [← Lib.toList_data] at hls ⊢
        rw [hem, hls]; rfl
      have HLS := Lib.hid hls
      clear hls HV HV1
      go_wp2_with fail
      refine (split_any p _ (HEnv.out.below hW) (by omega)).mono ?_
      rintro e w2 ⟨v, rfl, hv, hb2⟩
      rw [HLS.out] at hv
      obtain ⟨bx, ox, capx, rfl, hbx, hcx⟩ := hv.full hln
      have HCX := Lib.hid hcx
      have hbw := below_then hW hb2
      clear hv hcx hb2
      go_wp2_with fail
      go_loopw [6, 37] (fun _ i wr => ChkRelW ls w2 i wr) (fun _ i _ => ls.length - (intOf i).toNat)
      case atStart => exact ⟨0, Nat.zero_le _, rfl, rfl, Below.refl _ _⟩
      case round =>
        obtain ⟨k, hk, rfl, hall, hbr⟩ := hrel
        have HA := Lib.hid hall
        clear hall
        by_cases hlt : k < ls.length
        · have hc : wr.cell? ⟨bx, ox + k, none⟩ = some (.string (S ls[k])) := (hbr.cell (p := ⟨bx, ox + k, none⟩) hbx).trans (HCX.out k hlt)
          have hki : (k : Int) < (ls.length : Int) := by omega
          have hsk : (S ls[k]).size ≤ 9223372036854775807 := by
            rw [S_size]; have := HSZ.out _ (List.getElem_mem hlt); omega
          cases hp : Sem4.part ls[k]
          · have HP : Hid (Sem4.part (S ls[k]).data.toList = false) := hp
            have HE : Hid (verErr a b c p.data.toList = 40) := by
              show _ = _
              rw [HV2.out, if_neg]
              intro h
              have := List.all_eq_true.1 h _ (List.getElem_mem hlt)
              rw [hp] at this; cases this
            clear hp
            go_wp2_with fail
            refine (partP_as _ false HP.out _ hsk).mono ?_
            rintro e w3 ⟨rfl, hb3⟩
            go_wp2_with fail
            go_ret
            exact ⟨by rw [HE.out]; rfl, below_then hbw (below_then hbr hb3)⟩
          · have HP : Hid (Sem4.part (S ls[k]).data.toList = true) := hp
            clear hp
            go_wp2_with fail
            refine (partP_as _ true HP.out _ hsk).mono ?_
            rintro e w3 ⟨rfl, hb3⟩
            go_wp2_with fail
            go_roundw
            case rel => exact ⟨k + 1, by omega, by go_num, by rw [List.take_succ_eq_append_getElem hlt, List.all_append, HA.out]; simpa [S_data] using HP.out, below_then hbr hb3⟩
            case measure => simp [intOf]; omega
        · have q : decide ((k : Int) < (ls.length : Int)) = false := by simp; omega
          obtain rfl : k = ls.length := by omega
          have HE : Hid (verErr a b c p.data.toList = 0) := by
            show _ = _
            have := HA.out
            rw [List.take_of_length_le (Nat.le_refl _)] at this
            rw [HV2.out, this]; rfl
          go_wp2_with fail
          go_ret
          exact ⟨by rw [HE.out]; rfl, below_then hbw hbr⟩
end Go.Proofs.YtbihdgnhdlpmgaaGreatDoor
