/- Locks: a lock is read as it was written: the law, walked. -/
import Derived.Test.YtboajinaiceekaaGreatDoorLockAwake
namespace Go
open Go.RowKit
theorem lockL_len {l : List Pik} (h : mayB l = true) : (lockL l).length ≤ 3000 := by
  have hm := may_mem h
  have := shTo_len hm.1 l.length (Nat.le_refl _)
  rw [shTo_all] at this
  unfold lockL
  rw [List.length_append, sumL_length]
  omega
end Go
namespace Go.Proofs.YtboajinaiceekaaGreatDoor
open Go.RowKit
set_option maxRecDepth 100000 in
set_option maxHeartbeats 4000000 in
theorem back_tail (v : Value) (l : List Pik) (s : ByteArray) (w : World) (hv : Piks w v l) (hE : Env w) :
    Calls Tryz.prog 6 #[v, .string s] w fun e w' => e = .returned (.bool true) ∧ Below w.heap.size w w' := by
  obtain ⟨a0, cap0, rfl⟩ := hv.len
  have HE := Lib.hid hE
  obtain ⟨li, hli⟩ : ∃ b, lightP l = b := ⟨_, rfl⟩
  have HLi := fun w h => light_any (.slice a0 l.length cap0) l w h
  rw [hli] at HLi
  have HLi := Lib.hid (HLi w hv)
  have HAw := Lib.hid (fun W hW => awake_any W hW)
  have HV := Lib.hid hv
  cases li
  · clear hv hE hli
    go_enter Tryz.func6, Tryz.ntmps6
    go_wp2_with fail
    refine HLi.out.mono ?_
    rintro e w1 ⟨rfl, rfl⟩
    go_wp2_with fail
    refine (HAw.out _ HE.out).mono ?_
    rintro e w2 ⟨rfl, hb2⟩
    go_wp2_with fail
    go_ret
    exact ⟨rfl, hb2⟩
  by_cases hs : 20000 < s.size
  · have q : decide (20000 < (s.size : Int)) = true := decide_eq_true (by omega)
    have q' : decide (20000 < s.size) = true := decide_eq_true hs
    clear hv hE hli hs
    go_enter Tryz.func6, Tryz.ntmps6
    go_wp2_with fail
    refine HLi.out.mono ?_
    rintro e w1 ⟨rfl, rfl⟩
    go_wp2_with fail
    refine (HAw.out _ HE.out).mono ?_
    rintro e w2 ⟨rfl, hb2⟩
    go_wp2_with fail
    go_ret
    exact ⟨rfl, hb2⟩
  have q : decide (20000 < (s.size : Int)) = false := decide_eq_false (by omega)
  have q' : decide (20000 < s.size) = false := decide_eq_false hs
  have HPs := Lib.hid (fun W hW => lparse_any s W hW (by omega))
  have hsz := (lightP_sz hli).2
  have HSz := Lib.hid hsz
  have hfin : ∀ (ps : List Pik), LockIs s.data.toList ps 0 → mayB ps = true ∧ lockShow ps = (s.data.toList, 0) ∧ ∀ x ∈ ps, x.v.p.size ≤ 300 := fun ps h => by
    rcases h with ⟨_, h1, h2⟩ | ⟨h, _⟩
    · refine ⟨h1, by unfold lockShow; rw [h1, h2]; rfl, fun x hx => ?_⟩
      have := (verOk_bounds (pik_parts' ((may_mem h1).1 x hx)).2).2.2.2.2.2.2.1
      rw [Lib.size_eq]; omega
    · cases h
  have HFin := Lib.hid hfin
  have qss : (s.toList == s.toList) = true := beq_self_eq_true _
  cases hmb : mayB l
  · have HSh := Lib.hid (lshow_as (.slice a0 l.length cap0) l ⟨#[]⟩ 370 (by unfold lockShow; rw [hmb]; rfl) w hv hE hsz)
    clear hv hE hli hs hsz hfin hmb
    go_enter Tryz.func6, Tryz.ntmps6
    go_wp2_with fail
    refine HLi.out.mono ?_
    rintro e w1 ⟨rfl, rfl⟩
    go_wp2_with fail
    refine HSh.out.mono ?_
    rintro e w2 ⟨rfl, hb2⟩
    go_wp2_with fail
    refine (HPs.out _ (HE.out.below hb2)).mono ?_
    rintro e w3 ⟨u, ps, er, rfl, hu, hpi, _, hb3⟩
    obtain ⟨ua, uc, rfl⟩ := hu.len
    have hb := below_then hb2 hb3
    have HU := Lib.hid hu
    have HPi := Lib.hid hpi
    clear hu hpi hb2 hb3
    by_cases he : er = 0
    · subst he
      obtain ⟨f1, f2, f3⟩ := HFin.out ps HPi.out
      have HS2 := Lib.hid (lshow_as (.slice ua ps.length uc) ps s 0 f2 w3 HU.out (HE.out.below hb) f3)
      clear f1 f2 f3
      go_wp2_with fail
      refine HS2.out.mono ?_
      rintro e w4 ⟨rfl, hb4⟩
      have hb5 := below_then hb hb4
      go_wp2_with fail
      refine (HAw.out _ (HE.out.below hb5)).mono ?_
      rintro e w5 ⟨rfl, hb6⟩
      have hb7 := below_then hb5 hb6
      go_wp2_with fail
      go_ret
      exact ⟨rfl, hb7⟩
    · have hz : er = 370 ∧ ps = [] := by
        rcases HPi.out with ⟨h, _⟩ | ⟨h1, h2, _⟩
        · exact absurd h he
        · exact ⟨h1, h2⟩
      obtain ⟨rfl, rfl⟩ := hz
      clear he
      go_wp2_with fail
      refine (HAw.out _ (HE.out.below hb)).mono ?_
      rintro e w5 ⟨rfl, hb6⟩
      have hb7 := below_then hb hb6
      go_wp2_with fail
      go_ret
      exact ⟨rfl, hb7⟩
  · obtain ⟨A, hA⟩ : ∃ A, S (lockL l) = A := ⟨_, rfl⟩
    have hAl : A.data.toList = lockL l := by rw [← hA]; rfl
    have hAs : A.size ≤ 100000 := by rw [Lib.size_eq, hAl]; have := lockL_len hmb; omega
    have HSh := Lib.hid (lshow_as (.slice a0 l.length cap0) l A 0 (by unfold lockShow; rw [hmb, hAl]; rfl) w hv hE hsz)
    have HPa := Lib.hid (fun W hW => lparse_any A W hW hAs)
    have HAl := Lib.hid hAl
    have HMb := Lib.hid hmb
    clear hv hE hli hs hsz hfin hmb hA hAl hAs
    go_enter Tryz.func6, Tryz.ntmps6
    go_wp2_with fail
    refine HLi.out.mono ?_
    rintro e w1 ⟨rfl, rfl⟩
    go_wp2_with fail
    refine HSh.out.mono ?_
    rintro e w2 ⟨rfl, hb2⟩
    go_wp2_with fail
    refine (HPa.out _ (HE.out.below hb2)).mono ?_
    rintro e w3 ⟨u, ps, er, rfl, hu, hpi, _, hb3⟩
    rw [HAl.out] at hpi
    obtain ⟨rfl, rfl⟩ := hpi.uniq (lockIs_yes HMb.out rfl)
    obtain ⟨ua, uc, rfl⟩ := hu.len
    have hb := below_then hb2 hb3
    have HSm := Lib.hid (same_self (.slice a0 ps.length cap0) (.slice ua ps.length uc) ps w3 (HV.out.below hb (Nat.le_refl _)) hu)
    clear hu hpi hb2 hb3
    go_wp2_with fail
    refine HSm.out.mono ?_
    rintro e w4 ⟨rfl, hb4⟩
    have hb := below_then hb hb4
    clear hb4
    go_wp2_with fail
    refine (HPs.out _ (HE.out.below hb)).mono ?_
    rintro e w5 ⟨u5, p5, er5, rfl, hu5, hpi5, _, hb5⟩
    obtain ⟨ua5, uc5, rfl⟩ := hu5.len
    have hb := below_then hb hb5
    have HU := Lib.hid hu5
    have HPi := Lib.hid hpi5
    clear hu5 hpi5 hb5
    by_cases he : er5 = 0
    · subst he
      obtain ⟨f1, f2, f3⟩ := HFin.out p5 HPi.out
      have HS2 := Lib.hid (lshow_as (.slice ua5 p5.length uc5) p5 s 0 f2 w5 HU.out (HE.out.below hb) f3)
      clear f1 f2 f3
      go_wp2_with fail
      refine HS2.out.mono ?_
      rintro e w6 ⟨rfl, hb6⟩
      have hb7 := below_then hb hb6
      go_wp2_with fail
      refine (HAw.out _ (HE.out.below hb7)).mono ?_
      rintro e w7 ⟨rfl, hb8⟩
      have hb9 := below_then hb7 hb8
      go_wp2_with fail
      go_ret
      exact ⟨rfl, hb9⟩
    · have hz : er5 = 370 ∧ p5 = [] := by
        rcases HPi.out with ⟨h, _⟩ | ⟨h1, h2, _⟩
        · exact absurd h he
        · exact ⟨h1, h2⟩
      obtain ⟨rfl, rfl⟩ := hz
      clear he
      go_wp2_with fail
      refine (HAw.out _ (HE.out.below hb)).mono ?_
      rintro e w6 ⟨rfl, hb6⟩
      have hb7 := below_then hb hb6
      go_wp2_with fail
      go_ret
      exact ⟨rfl, hb7⟩
end Go.Proofs.YtboajinaiceekaaGreatDoor
