/- The reference of layer 4: Check: a walk. -/
import Derived.Test.YtkjifpfaekljaaaDoorSemRef4
namespace Go.Proofs.YtkjifpfaekljaaaDoor
open Go.RowKit
theorem part_as (s : ByteArray) (b : Bool) (h : Sem4.part s.data.toList = b) (w : World) (hs : s.size ≤ 9223372036854775807) :
    Calls Tryd.prog 31 #[.string s] w fun e w' => e = .returned (.bool b) ∧ w = w' := by
  subst h; exact refPart_any s w hs
/-- the cells of a row of texts -/
theorem strs_cells {w : World} {base : Nat} {e : TypeId} {v : Value} {n : Nat} {ls : List (List UInt8)} (h : w.ownsRow base e 1 v n (strs ls)) (hn : 0 < n) :
    n = ls.length ∧ ∃ g cap, v = .slice (some ⟨g, 0, none⟩) n cap ∧ base ≤ g ∧ ∀ j (hj : j < ls.length), w.cell? ⟨g, j, none⟩ = some (.string (S ls[j])) := by
  have h1 : n = ls.length := by have := h.1; rw [strs_length] at this; omega
  obtain ⟨g, cap, hv⟩ := Joins.ownsRow_form h hn
  subst hv
  refine ⟨h1, g, cap, rfl, (h.lt g rfl).1, fun j hj => ?_⟩
  rw [World.ownsRow.cellAt h j (by omega), strs_get ls j hj]
theorem dots_part_size (l : List UInt8) : ∀ p ∈ Sem4.dots l, p.length ≤ l.length := by
  induction l with
  | nil => simp [Sem4.dots]
  | cons c l ih =>
    unfold Sem4.dots
    split
    · intro p hp
      rcases List.mem_cons.1 hp with rfl | hp
      · simp
      · have := ih p hp; simp; omega
    · split
      · intro p hp; simp at hp; subst hp; simp
      · rename_i q qs h
        rw [h] at ih
        intro p hp
        rcases List.mem_cons.1 hp with rfl | hp
        · have := ih q (by simp); simp; exact this
        · have := ih p (by simp [hp]); simp; omega
def ChkRel (ls : List (List UInt8)) (i : Value) : Prop := ∃ k : Nat, k ≤ ls.length ∧ i = .int .i64 (k : Int) ∧ (ls.take k).all Sem4.part = true
set_option maxRecDepth 100000 in
set_option maxHeartbeats 2000000 in
theorem refCheck_any (a b c : Int) (p : ByteArray) (w : World) (hs : p.size ≤ 9223372036854775807) :
    Calls Tryd.prog 17 #[.agg #[.int .i64 a, .int .i64 b, .int .i64 c, .string p]] w fun e w' => e = .returned (.int .i64 (verErr a b c p.data.toList)) ∧ Below w.heap.size w w' := by
  by_cases h0 : a < 0
  · have q0 : decide (a < 0) = true := by simpa using h0
    have HE : Hid (verErr a b c p.data.toList = 40) := by
      show _ = _
      unfold verErr verOk numOk
      rw [if_neg (by simp; omega)]
    clear h0
    go_enter Tryd.func17, Tryd.ntmps17
    go_wp2_with fail
    go_ret
    exact ⟨by rw [HE.out]; rfl, (Below.refl _ _).alloc (Nat.le_refl _) _⟩
  have q0 : decide (a < 0) = false := by simpa using h0
  by_cases h1 : 999999 < a
  · have q1 : decide (999999 < a) = true := by simpa using h1
    have HE : Hid (verErr a b c p.data.toList = 40) := by
      show _ = _
      unfold verErr verOk numOk
      rw [if_neg (by simp; omega)]
    clear h1
    go_enter Tryd.func17, Tryd.ntmps17
    go_wp2_with fail
    go_ret
    exact ⟨by rw [HE.out]; rfl, (Below.refl _ _).alloc (Nat.le_refl _) _⟩
  have q1 : decide (999999 < a) = false := by simpa using h1
  by_cases h2 : b < 0
  · have q2 : decide (b < 0) = true := by simpa using h2
    have HE : Hid (verErr a b c p.data.toList = 40) := by
      show _ = _
      unfold verErr verOk numOk
      rw [if_neg (by simp; omega)]
    clear h2
    go_enter Tryd.func17, Tryd.ntmps17
    go_wp2_with fail
    go_ret
    exact ⟨by rw [HE.out]; rfl, (Below.refl _ _).alloc (Nat.le_refl _) _⟩
  have q2 : decide (b < 0) = false := by simpa using h2
  by_cases h3 : 999999 < b
  · have q3 : decide (999999 < b) = true := by simpa using h3
    have HE : Hid (verErr a b c p.data.toList = 40) := by
      show _ = _
      unfold verErr verOk numOk
      rw [if_neg (by simp; omega)]
    clear h3
    go_enter Tryd.func17, Tryd.ntmps17
    go_wp2_with fail
    go_ret
    exact ⟨by rw [HE.out]; rfl, (Below.refl _ _).alloc (Nat.le_refl _) _⟩
  have q3 : decide (999999 < b) = false := by simpa using h3
  by_cases h4 : c < 0
  · have q4 : decide (c < 0) = true := by simpa using h4
    have HE : Hid (verErr a b c p.data.toList = 40) := by
      show _ = _
      unfold verErr verOk numOk
      rw [if_neg (by simp; omega)]
    clear h4
    go_enter Tryd.func17, Tryd.ntmps17
    go_wp2_with fail
    go_ret
    exact ⟨by rw [HE.out]; rfl, (Below.refl _ _).alloc (Nat.le_refl _) _⟩
  have q4 : decide (c < 0) = false := by simpa using h4
  by_cases h5 : 999999 < c
  · have q5 : decide (999999 < c) = true := by simpa using h5
    have HE : Hid (verErr a b c p.data.toList = 40) := by
      show _ = _
      unfold verErr verOk numOk
      rw [if_neg (by simp; omega)]
    clear h5
    go_enter Tryd.func17, Tryd.ntmps17
    go_wp2_with fail
    go_ret
    exact ⟨by rw [HE.out]; rfl, (Below.refl _ _).alloc (Nat.le_refl _) _⟩
  have q5 : decide (999999 < c) = false := by simpa using h5
  by_cases h6 : 24 < p.size
  · have q6 : decide ((24 : Int) < (p.size : Int)) = true := by simp; omega
    have HE : Hid (verErr a b c p.data.toList = 40) := by
      show _ = _
      unfold verErr verOk numOk
      rw [if_neg (by rw [← Lib.size_eq]; simp; omega)]
    clear h6
    go_enter Tryd.func17, Tryd.ntmps17
    go_wp2_with fail
    go_ret
    exact ⟨by rw [HE.out]; rfl, (Below.refl _ _).alloc (Nat.le_refl _) _⟩
  have q6 : decide ((24 : Int) < (p.size : Int)) = false := by simp; omega
  have HV : Hid (verErr a b c p.data.toList = if preOk p.data.toList then 0 else 40) := by
    show _ = _
    unfold verErr verOk numOk
    rw [← Lib.size_eq]
    congr 1
    simp
    intro _
    omega
  cases hem : p.toList.isEmpty
  case true =>
    have HE : Hid (verErr a b c p.data.toList = 0) := by
      show _ = _
      rw [HV.out, ← Lib.toList_data]; unfold preOk; rw [hem]; rfl
    go_enter Tryd.func17, Tryd.ntmps17
    go_wp2_with fail
    go_ret
    exact ⟨by rw [HE.out]; rfl, (Below.refl _ _).alloc (Nat.le_refl _) _⟩
  obtain ⟨ls, hls⟩ : ∃ ls, ls = Sem4.dots p.data.toList := ⟨_, rfl⟩
  have hne : ls ≠ [] := by rw [hls]; exact Sem4.dots_ne _
  have hln : 0 < ls.length := List.length_pos_iff.2 hne
  have hlen : ls.length ≤ 25 := by
    have := dots_len p.data.toList
    rw [← hls, ← Lib.size_eq] at this; omega
  have hsz : ∀ l ∈ ls, l.length ≤ 24 := by
    intro l hl
    rw [hls] at hl
    have := dots_part_size _ l hl
    rw [← Lib.size_eq] at this; omega
  have HV2 : Hid (verErr a b c p.data.toList = if ls.all Sem4.part then 0 else 40) := by
    show _ = _
    rw [HV.out]; unfold preOk
    rw [← Lib.toList_data] at hls ⊢
    rw [hem, ← hls]; rfl
  have HLS := Lib.hid hls
  have HSZ := Lib.hid hsz
  have hps : p.size ≤ 24 := by omega
  clear hls hsz hne HV h6 h0 h1 h2 h3 h4 h5
  go_enter Tryd.func17, Tryd.ntmps17
  go_wp2_with fail
  refine (refParts_any p _ (by omega)).mono ?_
  rintro e w1 ⟨v, n, rfl, hown, hb1⟩
  rw [← HLS.out] at hown
  have hn : n = ls.length := by have := hown.1; rw [strs_length] at this; omega
  subst hn
  obtain ⟨_, g, cap, hv, hg, hcells⟩ := strs_cells hown hln
  subst hv
  have hbw := ((Below.refl w.heap.size w).alloc (Nat.le_refl _) (.cells #[.int .i64 a, .int .i64 b, .int .i64 c, .string p] 23)).trans (hb1.mono (by simp))
  have HCE := Lib.hid hcells
  clear hown hcells hb1
  go_wp2_with fail
  go_loop [4] (fun i => ChkRel ls i) (fun i => ls.length - (intOf i).toNat)
  case atStart => exact ⟨0, Nat.zero_le _, rfl, rfl⟩
  case round =>
    obtain ⟨k, hk, rfl, hall⟩ := hrel
    have HA := Lib.hid hall
    clear hall
    by_cases hlt : k < ls.length
    · have hc := HCE.out k hlt
      have hki : (k : Int) < (ls.length : Int) := by omega
      have hsk : (S ls[k]).size ≤ 9223372036854775807 := by
        rw [S_size]; have := HSZ.out _ (List.getElem_mem hlt); omega
      cases hp : Sem4.part ls[k]
      · have HP : Hid (Sem4.part (S ls[k]).data.toList = false) := hp
        have HE : Hid (verErr a b c p.data.toList = 40) := by
          show _ = _
          rw [HV2.out, if_neg]
          intro h
          have := List.all_eq_true.1 h _ (List.getElem_mem hlt)
          rw [hp] at this; cases this
        clear hp
        go_wp2_with (go_at_call 31; go_must (refine (part_as _ false HP.out _ hsk).mono ?_); rintro e w2 ⟨rfl, rfl⟩)
        go_ret
        exact ⟨by rw [HE.out]; rfl, hbw⟩
      · have HP : Hid (Sem4.part (S ls[k]).data.toList = true) := hp
        clear hp
        go_wp2_with (go_at_call 31; go_must (refine (part_as _ true HP.out _ hsk).mono ?_); rintro e w2 ⟨rfl, rfl⟩)
        go_round
        case rel => exact ⟨k + 1, by omega, by go_num, by rw [List.take_succ_eq_append_getElem hlt, List.all_append, HA.out]; simpa [S_data] using HP.out⟩
        case measure => simp [intOf]; omega
    · obtain rfl : k = ls.length := by omega
      have HE : Hid (verErr a b c p.data.toList = 0) := by
        show _ = _
        have := HA.out
        rw [List.take_of_length_le (Nat.le_refl _)] at this
        rw [HV2.out, this]; rfl
      go_wp2_with fail
      go_ret
      exact ⟨by rw [HE.out]; rfl, hbw⟩
end Go.Proofs.YtkjifpfaekljaaaDoor
