/- A record's note: walks. -/
import Derived.Test.YtlhpgkaffbgkgaaGreatDoorRecMath
import Derived.Test.YtlhpgkaffbgkgaaGreatDoorSemCom
import Derived.Test.YtlhpgkaffbgkgaaGreatDoorShelfB
import Derived.Test.YtlhpgkaffbgkgaaGreatDoorSemLib
import Derived.Lib.ValidLaws
import Derived.Lib.ConvBytes
namespace Go
theorem dec_lib {l : List UInt8} (h : l ≠ []) : Lib.decodeL l = Utf.dec l := by
  rw [Lib.decodeL_N]
  unfold Utf.dec
  rw [if_neg h]
  show Lib.decodeN l.length (Utf.b l 0) (Utf.b l 1) (Utf.b l 2) (Utf.b l 3) = _
  have := Utf.b_lt l 0
  unfold Lib.decodeN Utf.decN
  repeat' split
  all_goals first | rfl | (exfalso; omega)
theorem valid_utf : ∀ (n : Nat) (l : List UInt8), l.length ≤ n → Lib.validD l = utfB l
  | 0, l, h => by
    have : l = [] := List.eq_nil_of_length_eq_zero (by omega)
    subst this
    rfl
  | n + 1, l, h => by
    by_cases hn : l = []
    · subst hn; rfl
    · rw [Lib.validD_step l hn, dec_lib hn]
      have hp := Utf.dec_pos l hn
      by_cases hb : (Utf.dec l).1 = 65533 ∧ (Utf.dec l).2 = 1
      · have hb' : Utf.dec l = (65533, 1) := by
          rw [← hb.1, ← hb.2]
        rw [if_pos hb]
        unfold utfB
        rw [Utf.pts_bad l (.inr hb')]
        symm
        rw [decide_eq_false_iff_not]
        have := List.length_pos_iff.2 hn
        simp only
        omega
      · rw [if_neg hb, valid_utf n _ (by rw [List.length_drop]; omega)]
        unfold utfB
        rw [Utf.pts_step l (by
          rintro (h1 | h1)
          · exact hn h1
          · rw [h1] at hb; exact hb ⟨rfl, rfl⟩), List.length_drop, decide_eq_decide]
        simp only
        omega
theorem loud_snoc {s : ByteArray} {k : Nat} (h : k < s.size) : loudB (s.data.toList.take (k + 1)) = (loudB (s.data.toList.take k) && decide (32 ≤ s[k].toNat)) := by
  unfold loudB
  rw [take_byte s k h, List.all_append]
  simp
end Go
namespace Go.Proofs.YtlhpgkaffbgkgaaGreatDoor
open Go.RowKit
set_option maxRecDepth 100000 in
theorem loud_as (x : UInt8) (r : Bool) (h : decide (32 ≤ x.toNat) = r) (w : World) : Calls Tryz.prog 40 #[.int .u8 (x.toNat : Int)] w fun e w' => e = .returned (.bool r) ∧ w' = w := by
  have h' : decide ((32 : Int) ≤ (x.toNat : Int)) = r := by rw [← h, decide_eq_decide]; omega
  clear h
  cases r
  all_goals
    go_enter Tryz.func40, Tryz.ntmps40
    go_wp2_with fail
    go_ret
    exact ⟨rfl, rfl⟩
def LoRel (s : ByteArray) (i : Value) : Prop := ∃ k : Nat, k ≤ s.size ∧ i = .int .i64 (k : Int) ∧ loudB (s.data.toList.take k) = true
set_option maxRecDepth 100000 in
set_option maxHeartbeats 1000000 in
theorem all_loud (s : ByteArray) (b cap : Nat) (w : World) (hs : s.size ≤ 200) (hc : ∀ j, j < s.size → w.cell? ⟨b, j, none⟩ = some (.int .u8 (s.data.toList.getD j 0).toNat)) :
    Calls Tryz.prog 39 #[.func (Fn.func 40) #[] #[], .slice (some ⟨b, 0, none⟩) s.size cap] w fun e w' => e = .returned (.bool (loudB s.data.toList)) ∧ w' = w := by
  have HC := Lib.hid hc
  clear hc
  go_enter Tryz.func39, Tryz.ntmps39
  go_wp2_with fail
  go_loop [6, 9] (fun _ i => LoRel s i) (fun _ i => s.size - (intOf i).toNat)
  case atStart => exact ⟨0, Nat.zero_le _, rfl, rfl⟩
  case round =>
    obtain ⟨k, hk, rfl, hall⟩ := hrel
    have HA := Lib.hid hall
    clear hall
    by_cases hlt : k < s.size
    · have c0 := HC.out k hlt
      have hx : s.data.toList.getD k 0 = s[k] := by
        rw [List.getD_eq_getElem?_getD, List.getElem?_eq_getElem (by rw [← Lib.size_eq]; exact hlt)]; rfl
      rw [hx] at c0
      have HS := Lib.hid (loud_snoc hlt)
      have HM : Hid (s[k] ∈ s.data.toList) := by
        show _ ∈ _
        have : k < s.data.toList.length := by rw [← Lib.size_eq]; exact hlt
        exact List.getElem_mem this
      obtain ⟨y, hy⟩ : ∃ y, s[k] = y := ⟨_, rfl⟩
      rw [hy] at HS HM c0
      obtain ⟨r, hr⟩ : ∃ r, decide (32 ≤ y.toNat) = r := ⟨_, rfl⟩
      have HR := Lib.hid (fun w => loud_as y r hr w)
      have HRr := Lib.hid hr
      clear hr hx hy
      cases r
      · have HF : Hid (loudB s.data.toList = false) := by
          show _ = _
          unfold loudB
          rw [List.all_eq_false]
          exact ⟨y, HM.out, by rw [HRr.out]; decide⟩
        go_wp2_with fail
        refine (HR.out _).mono ?_
        rintro e w1 ⟨rfl, rfl⟩
        go_wp2_with fail
        go_ret
        exact ⟨by rw [HF.out]; rfl, rfl⟩
      · go_wp2_with fail
        refine (HR.out _).mono ?_
        rintro e w1 ⟨rfl, rfl⟩
        go_wp2_with fail
        go_round
        case rel => exact ⟨k + 1, by omega, by go_num, by rw [HS.out, HA.out, HRr.out]; rfl⟩
        case measure => simp [intOf]; omega
    · have q2 : decide (k < s.size) = false := decide_eq_false hlt
      have HF : Hid (loudB s.data.toList = true) := by
        show _ = _
        have h := HA.out
        rw [List.take_of_length_le (by rw [← Lib.size_eq]; omega)] at h
        exact h
      clear hlt
      go_wp2_with fail
      go_ret
      exact ⟨by rw [HF.out]; rfl, rfl⟩
set_option maxRecDepth 100000 in
set_option maxHeartbeats 1000000 in
theorem note_any (s : ByteArray) (w : World) (hT : Lib.Utf8Tabs 0 1 w) : Calls Tryz.prog 21 #[.string s] w fun e w' => e = .returned (.bool (noteB s.data.toList)) ∧ Below w.heap.size w w' := by
  have hl := Lib.size_eq s
  by_cases h200 : s.size ≤ 200
  · have q : decide ((s.size : Int) ≤ 200) = true := by simp; omega
    have HN : Hid (noteB s.data.toList = (utfB s.data.toList && loudB s.data.toList)) := by
      show _ = _
      unfold noteB
      rw [← hl, decide_eq_true h200, Bool.true_and]
    have HV := Tryz.utf8_ValidString s w (by omega) hT
    rw [valid_utf _ _ (Nat.le_refl _)] at HV
    have HV := Lib.hid HV
    obtain ⟨r, hr⟩ : ∃ r, utfB s.data.toList = r := ⟨_, rfl⟩
    rw [hr] at HV HN
    clear hr hl hT
    cases r
    · go_enter Tryz.func21, Tryz.ntmps21
      go_wp2_with fail
      refine HV.out.mono ?_
      rintro e w1 ⟨rfl, hb⟩
      go_wp2_with fail
      go_ret
      exact ⟨by rw [HN.out]; rfl, hb⟩
    · have hcv := fun W => Lib.run_convert_string_bytes (P := Tryz.prog) W 9 72 5 s (u := .string) Tryz.underlying9 Tryz.underlying72 Tryz.underlying5
      go_enter Tryz.func21, Tryz.ntmps21
      go_wp2_with fail
      refine HV.out.mono ?_
      rintro e w1 ⟨rfl, hb⟩
      go_wp2_with fail
      refine (all_loud s _ _ _ h200 (fun j hj => Lib.bytesWorld_cell _ _ s j hj)).mono ?_
      rintro e w2 ⟨rfl, rfl⟩
      go_wp2_with fail
      go_ret
      exact ⟨by rw [HN.out]; rfl, hb.trans ((below_bytesWorld w1 _ s).mono hb.size)⟩
  · have q : decide ((s.size : Int) ≤ 200) = false := by simp; omega
    have HN : Hid (noteB s.data.toList = false) := by
      show _ = _
      unfold noteB
      rw [← hl, decide_eq_false h200, Bool.false_and, Bool.false_and]
    clear h200 hl hT
    go_enter Tryz.func21, Tryz.ntmps21
    go_wp2_with fail
    go_ret
    exact ⟨by rw [HN.out]; rfl, Below.refl _ _⟩
theorem note_as (s : ByteArray) (r : Bool) (h : noteB s.data.toList = r) (w : World) (hT : Lib.Utf8Tabs 0 1 w) : Calls Tryz.prog 21 #[.string s] w fun e w' => e = .returned (.bool r) ∧ Below w.heap.size w w' := by
  subst h; exact note_any s w hT
end Go.Proofs.YtlhpgkaffbgkgaaGreatDoor
