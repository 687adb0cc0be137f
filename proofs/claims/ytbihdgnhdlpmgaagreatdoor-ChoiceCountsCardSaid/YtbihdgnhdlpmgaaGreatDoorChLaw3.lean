/- ChoiceCounts: Any table has the document's number of ways, up to any number. The law returns true. -/
import Derived.Test.YtbihdgnhdlpmgaaGreatDoorChAwake
import Derived.Test.YtbihdgnhdlpmgaaGreatDoorCnt3
namespace Go.Proofs.YtbihdgnhdlpmgaaGreatDoor
open Go.RowKit Go.Maps
theorem wf_lo {n : Int} (h : (Lit.int .i64 n).wf = true) : -9223372036854775808 ≤ n := by
  simp only [Lit.wf, Bool.and_eq_true, decide_eq_true_eq] at h
  exact Int.le_trans (by decide) h.1
theorem wf_hi {n : Int} (h : (Lit.int .i64 n).wf = true) : n ≤ 9223372036854775807 := by
  simp only [Lit.wf, Bool.and_eq_true, decide_eq_true_eq] at h
  exact Int.le_trans h.2 (by decide)
set_option maxRecDepth 100000 in
set_option maxHeartbeats 8000000 in
theorem chCounts_any (pk nv : Value) (ts : List DPack) (needs : List (Want × Value)) (most : Int) (w : World) (hp : Packs w pk ts) (hn : Wants w nv needs) (hE : Env w) (h0 : -9223372036854775808 ≤ most) (h1 : most ≤ 9223372036854775807) :
    Calls Tryz.prog 5 #[pk, nv, .int .i64 most] w fun e w' => e = .returned (.bool true) ∧ Below w.heap.size w w' := by
  have hSm := Lib.hid (small_any pk (.slice none 0 0) nv ts [] needs w hp ⟨rfl, Nat.zero_le _, .inl ⟨_, _, rfl, rfl, fun _ => rfl⟩⟩ hn)
  have HP := Lib.hid hp
  have HN := Lib.hid hn
  have HE := Lib.hid hE
  obtain ⟨_, a0, cap0, rfl⟩ := hp.len
  obtain ⟨_, a2, cap2, rfl⟩ := hn.len
  clear hp hn hE
  go_enter Tryz.func5, Tryz.ntmps5
  go_wp2_with fail
  refine hSm.out.mono ?_
  rintro e w2 ⟨⟨b, rfl, hb⟩, hb2⟩
  cases b
  · have HA := Lib.hid (awake_any w2 (HE.out.below hb2))
    clear hb
    go_wp2_with fail
    refine HA.out.mono ?_
    rintro e w3 ⟨rfl, hb3⟩
    have hb4 := below_then hb2 hb3
    go_wp2_with fail
    go_ret
    exact ⟨rfl, hb4⟩
  · have hsm := hb rfl
    have hos : ∀ p ∈ ts, p.os.length ≤ 1000000 := fun p hp => Nat.le_trans (hsm.os p hp).1 (by decide)
    have HC := Lib.hid (count_any _ _ ts needs most w2 (HP.out.below hb2 (Nat.le_refl _)) (HN.out.below hb2 (Nat.le_refl _)) h0 h1 hos)
    have HOs := Lib.hid hos
    obtain ⟨n, hn⟩ : ∃ n, countN needs ts most = n := ⟨_, rfl⟩
    have HNn := Lib.hid hn
    rw [hn] at HC
    clear hb hsm hos hn
    go_wp2_with fail
    refine HC.out.mono ?_
    rintro e w3 ⟨rfl, hb3⟩
    have hb4 := below_then hb2 hb3
    have HR := Lib.hid (rcount_any _ _ ts needs most w3 (HP.out.below hb4 (Nat.le_refl _)) (HN.out.below hb4 (Nat.le_refl _)) h1 HOs.out)
    rw [HNn.out] at HR
    go_wp2_with fail
    refine HR.out.mono ?_
    rintro e w4 ⟨rfl, hb5⟩
    have hb6 := below_then hb4 hb5
    have HA := Lib.hid (awake_any w4 (HE.out.below hb6))
    go_wp2_with fail
    refine HA.out.mono ?_
    rintro e w5 ⟨rfl, hb7⟩
    have hb8 := below_then hb6 hb7
    go_wp2_with fail
    go_ret
    exact ⟨rfl, hb8⟩
end Go.Proofs.YtbihdgnhdlpmgaaGreatDoor
