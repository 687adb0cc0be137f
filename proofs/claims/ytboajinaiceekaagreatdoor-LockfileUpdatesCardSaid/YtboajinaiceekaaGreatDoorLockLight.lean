/- Locks: the law's light: a walk. -/
import Derived.Test.YtboajinaiceekaaGreatDoorLockP
namespace Go
open Go.RowKit
def lightPik (p : Pik) : Bool := decide (p.v.p.size ≤ 200) && decide (p.name.size ≤ 1000)
def lightP (l : List Pik) : Bool := decide (l.length ≤ 100) && l.all lightPik
theorem lightP_out {l : List Pik} {p : Pik} (hm : p ∈ l) (h : lightPik p = false) : lightP l = false := by
  unfold lightP
  rw [Bool.and_eq_false_iff]
  right
  rw [List.all_eq_false]
  exact ⟨p, hm, by simp [h]⟩
theorem lightP_sz {l : List Pik} (h : lightP l = true) : l.length ≤ 100 ∧ ∀ p ∈ l, p.v.p.size ≤ 300 := by
  unfold lightP at h
  rw [Bool.and_eq_true, decide_eq_true_iff, List.all_eq_true] at h
  refine ⟨h.1, fun p hp => ?_⟩
  have := h.2 p hp
  unfold lightPik at this
  rw [Bool.and_eq_true, decide_eq_true_iff] at this
  omega
end Go
namespace Go.Proofs.YtboajinaiceekaaGreatDoor
open Go.RowKit
def LtRel (l : List Pik) (i : Value) : Prop := ∃ k : Nat, k ≤ l.length ∧ i = .int .i64 (k : Int) ∧ (l.take k).all lightPik = true
set_option maxRecDepth 100000 in
set_option maxHeartbeats 2000000 in
theorem light_any (v : Value) (l : List Pik) (w : World) (hv : Piks w v l) :
    Calls Tryz.prog 9 #[v] w fun e w' => e = .returned (.bool (lightP l)) ∧ w' = w := by
  obtain ⟨a0, cap0, rfl⟩ := hv.len
  have HV := Lib.hid hv
  have hb := Below.refl w.heap.size w
  clear hv
  by_cases h100 : 100 < l.length
  · have q : decide (100 < (l.length : Int)) = true := decide_eq_true (by omega)
    have q' : decide (100 < l.length) = true := decide_eq_true h100
    have HF : Hid (lightP l = false) := by
      show _ = _
      unfold lightP
      rw [decide_eq_false (by omega)]; rfl
    clear h100 hb
    go_enter Tryz.func9, Tryz.ntmps9
    go_wp2_with fail
    go_ret
    exact ⟨by rw [HF.out]; rfl, rfl⟩
  have q : decide (100 < (l.length : Int)) = false := decide_eq_false (by omega)
  have q' : decide (100 < l.length) = false := decide_eq_false h100
  have hl100 : l.length ≤ 100 := by omega
  clear h100
  go_enter Tryz.func9, Tryz.ntmps9
  go_wp2_with fail
  go_loop [3] (fun i => LtRel l i) (fun i => l.length - (intOf i).toNat)
  case atStart => exact ⟨0, Nat.zero_le _, rfl, rfl⟩
  case round =>
    obtain ⟨k, hk, rfl, hall⟩ := hrel
    have HA := Lib.hid hall
    clear hall
    by_cases hlt : k < l.length
    · have i0 : (0 : Int) ≤ (k : Int) := by omega
      have i1 : (k : Int) < (l.length : Int) := by omega
      obtain ⟨bx, ox, rfl, hbx, hcp⟩ := HV.out.row hb hlt
      obtain ⟨c0, c1, c2, c3, c4⟩ := hcp k hlt
      have HT := Lib.hid (List.take_succ_eq_append_getElem hlt)
      have hmem := List.getElem_mem hlt
      obtain ⟨x, hxe⟩ : ∃ x, l[k] = x := ⟨_, rfl⟩
      rw [hxe] at c0 c1 c2 c3 c4 HT hmem
      have HM := Lib.hid hmem
      clear hcp hxe hmem
      by_cases h2 : 200 < x.v.p.size
      · have q2 : decide (200 < (x.v.p.size : Int)) = true := decide_eq_true (by omega)
        have q2' : decide (200 < x.v.p.size) = true := decide_eq_true h2
        have HF : Hid (lightP l = false) := lightP_out HM.out (by unfold lightPik; rw [decide_eq_false (by omega)]; rfl)
        clear h2
        go_wp2_with fail
        go_ret
        exact ⟨by rw [HF.out]; rfl, rfl⟩
      · have q2 : decide (200 < (x.v.p.size : Int)) = false := decide_eq_false (by omega)
        have q2' : decide (200 < x.v.p.size) = false := decide_eq_false h2
        by_cases h3 : 1000 < x.name.size
        · have q3 : decide (1000 < (x.name.size : Int)) = true := decide_eq_true (by omega)
          have q3' : decide (1000 < x.name.size) = true := decide_eq_true h3
          have HF : Hid (lightP l = false) := lightP_out HM.out (by unfold lightPik; rw [decide_eq_false (show ¬ x.name.size ≤ 1000 by omega), Bool.and_false])
          clear h2 h3
          go_wp2_with fail
          go_ret
          exact ⟨by rw [HF.out]; rfl, rfl⟩
        · have q3 : decide (1000 < (x.name.size : Int)) = false := decide_eq_false (by omega)
          have q3' : decide (1000 < x.name.size) = false := decide_eq_false h3
          have HL : Hid (lightPik x = true) := by
            show _ = _
            unfold lightPik
            rw [decide_eq_true (show x.v.p.size ≤ 200 by omega), decide_eq_true (show x.name.size ≤ 1000 by omega)]; rfl
          clear h2 h3
          go_wp2_with fail
          go_round
          case rel =>
            refine ⟨k + 1, hlt, by go_num, ?_⟩
            rw [HT.out, List.all_append, HA.out]; simp [HL.out]
          case measure => simp [intOf]; omega
    · have q5 : decide (k < l.length) = false := decide_eq_false hlt
      have HF : Hid (lightP l = true) := by
        show _ = _
        have h := HA.out
        rw [List.take_of_length_le (by omega)] at h
        unfold lightP
        rw [h, decide_eq_true hl100]; rfl
      clear hlt
      go_wp2_with fail
      go_ret
      exact ⟨by rw [HF.out]; rfl, rfl⟩
end Go.Proofs.YtboajinaiceekaaGreatDoor
