/- The reference's records: note: a walk. -/
import Derived.Test.YtlhpgkaffbgkgaaGreatDoorRec3
import Derived.Test.YtlhpgkaffbgkgaaGreatDoorOctRef3
import Derived.Test.YtlhpgkaffbgkgaaGreatDoorUtfRef2
import Derived.Test.YtlhpgkaffbgkgaaGreatDoorUtfRef4
import Derived.Test.YtlhpgkaffbgkgaaGreatDoorSemRefA
namespace Go
theorem pts_le : ∀ (n : Nat) (l : List UInt8), l.length ≤ n → (Utf.pts l).2 ≤ l.length
  | 0, l, h => by
    have : l = [] := List.eq_nil_of_length_eq_zero (by omega)
    subst this
    exact Nat.le_refl _
  | n + 1, l, h => by
    by_cases hb : Utf.bad l
    · rw [Utf.pts_bad l hb]; exact Nat.zero_le _
    · have hn : l ≠ [] := fun e => hb (.inl e)
      have hp := Utf.dec_pos l hn
      have := pts_le n (l.drop (Utf.dec l).2) (by rw [List.length_drop]; omega)
      rw [List.length_drop] at this
      rw [Utf.pts_step l hb]
      simp only; omega
end Go
namespace Go.Proofs.YtlhpgkaffbgkgaaGreatDoor
open Go.RowKit
theorem firstSaid : FirstSaid := fun s w hs => first_any s w hs
theorem decErr_utf (s : ByteArray) : decErr s = if utfB s.data.toList then 0 else 30 := by
  have h := pts_le _ s.data.toList (Nat.le_refl _)
  unfold decErr decBad utfB
  rw [Lib.size_eq]
  by_cases h1 : (Utf.pts s.data.toList).2 = s.data.toList.length
  · rw [decide_eq_true h1, decide_eq_false (by omega)]; rfl
  · rw [decide_eq_false h1, decide_eq_true (by omega)]; rfl
set_option maxRecDepth 100000 in
set_option maxHeartbeats 1000000 in
theorem rnote_any (s : ByteArray) (w : World) : Calls Tryz.prog 25 #[.string s] w fun e w' => e = .returned (.bool (noteB s.data.toList)) ∧ Below w.heap.size w w' := by
  have hl := Lib.size_eq s
  by_cases h200 : s.size ≤ 200
  rotate_left
  · have q : decide ((200 : Int) < (s.size : Int)) = true := by simp; omega
    have HN : Hid (noteB s.data.toList = false) := by
      show _ = _
      unfold noteB
      rw [← hl, decide_eq_false h200, Bool.false_and, Bool.false_and]
    clear h200 hl
    go_enter Tryz.func25, Tryz.ntmps25
    go_wp2_with fail
    go_ret
    exact ⟨by rw [HN.out]; rfl, Below.refl _ _⟩
  have q : decide ((200 : Int) < (s.size : Int)) = false := by simp; omega
  have HN : Hid (noteB s.data.toList = (utfB s.data.toList && loudB s.data.toList)) := by
    show _ = _
    unfold noteB
    rw [← hl, decide_eq_true h200, Bool.true_and]
  have HD := fun W => refDecode_any s W (by omega) firstSaid
  have HE := Lib.hid (decErr_utf s)
  clear hl
  go_enter Tryz.func25, Tryz.ntmps25
  go_wp2_with fail
  go_loop [3] (fun i => LoRel s i) (fun i => s.size - (intOf i).toNat)
  case atStart => exact ⟨0, Nat.zero_le _, rfl, rfl⟩
  case round =>
    obtain ⟨k, hk, rfl, hall⟩ := hrel
    have HA := Lib.hid hall
    clear hall
    by_cases hlt : k < s.size
    · have i0 : (0 : Int) ≤ (k : Int) := by omega
      have i1 : (k : Int) < (s.size : Int) := by omega
      have HS := Lib.hid (loud_snoc hlt)
      have HM : Hid (s[k] ∈ s.data.toList) := by
        show _ ∈ _
        have : k < s.data.toList.length := by rw [← Lib.size_eq]; exact hlt
        exact List.getElem_mem this
      obtain ⟨y, hy⟩ : ∃ y, s[k] = y := ⟨_, rfl⟩
      rw [hy] at HS HM
      by_cases hr : 32 ≤ y.toNat
      · have q3 : decide ((y.toNat : Int) < 32) = false := by simp; omega
        have HRr : Hid (decide (32 ≤ y.toNat) = true) := decide_eq_true hr
        clear hr HD
        go_wp2_with fail
        go_round
        case rel => exact ⟨k + 1, by omega, by go_num, by rw [HS.out, HA.out, HRr.out]; rfl⟩
        case measure => simp [intOf]; omega
      · have q3 : decide ((y.toNat : Int) < 32) = true := by simp; omega
        have HF : Hid (noteB s.data.toList = false) := by
          show _ = _
          rw [HN.out, Bool.and_eq_false_iff]
          right
          unfold loudB
          rw [List.all_eq_false]
          exact ⟨y, HM.out, by simpa using hr⟩
        clear hr HD
        go_wp2_with fail
        go_ret
        exact ⟨by rw [HF.out]; rfl, Below.refl _ _⟩
    · have q2 : decide (k < s.size) = false := decide_eq_false hlt
      have HF : Hid (noteB s.data.toList = utfB s.data.toList) := by
        show _ = _
        have h := HA.out
        rw [List.take_of_length_le (by rw [← Lib.size_eq]; omega)] at h
        rw [HN.out, h, Bool.and_true]
      have HD := Lib.hid HD
      clear hlt
      obtain ⟨r, hr⟩ : ∃ r, utfB s.data.toList = r := ⟨_, rfl⟩
      rw [hr] at HE HF
      clear hr
      cases r
      all_goals
        go_wp2_with fail
        refine (HD.out _).mono ?_
        rintro e w1 ⟨v, rfl, _, hb⟩
        rw [HE.out]
        go_wp2_with fail
        go_ret
        exact ⟨by rw [HF.out]; rfl, hb.alloc hb.size _⟩
theorem rnote_as (s : ByteArray) (r : Bool) (h : noteB s.data.toList = r) (w : World) : Calls Tryz.prog 25 #[.string s] w fun e w' => e = .returned (.bool r) ∧ Below w.heap.size w w' := by
  subst h; exact rnote_any s w
theorem rshowV (v : V4) (t : ByteArray) (e0 : Int) (h : ShowsAs v t e0) (w : World) (hs : v.p.size ≤ 9223372036854775807) :
    Calls Tryz.prog 23 #[.agg #[.int .i64 v.a, .int .i64 v.b, .int .i64 v.c, .string v.p]] w fun e w' => e = .returned (.tuple #[.string t, .int .i64 e0]) ∧ Below w.heap.size w w' := by
  rcases h with ⟨h, ht, rfl⟩ | ⟨h, rfl, rfl⟩
  · obtain ⟨a, b, c, p⟩ := v
    obtain ⟨h1, h2, h3, h4, h5, h6, h7, _⟩ := verOk_bounds h
    simp only at h1 h2 h3 h4 h5 h6 h7
    obtain ⟨a, rfl⟩ := Int.eq_ofNat_of_zero_le h1
    obtain ⟨b, rfl⟩ := Int.eq_ofNat_of_zero_le h3
    obtain ⟨c, rfl⟩ := Int.eq_ofNat_of_zero_le h5
    have e1 : verErr (a : Int) (b : Int) (c : Int) p.data.toList = 0 := by unfold verErr; exact if_pos h
    have e2 : S (showL a b c p.data.toList) = t := by rw [← S_of t, ← ht]; rfl
    refine (refShow_yes a b c p w (by rw [Lib.size_eq]; exact h7) (by omega) (by omega) (by omega) e1).mono ?_
    rintro e w1 ⟨rfl, hb⟩
    exact ⟨by rw [e2], hb⟩
  · exact refShow_no v.a v.b v.c v.p w hs (by unfold verErr; exact if_neg (by rw [show verOk v.a v.b v.c v.p.data.toList = v.ok from rfl, h]; decide))
end Go.Proofs.YtlhpgkaffbgkgaaGreatDoor
