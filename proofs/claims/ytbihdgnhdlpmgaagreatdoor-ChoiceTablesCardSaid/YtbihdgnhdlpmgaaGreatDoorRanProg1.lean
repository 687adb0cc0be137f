/- The program's ranges: sign, Check: walks. -/
import Derived.Test.YtbihdgnhdlpmgaaGreatDoorSemProg2
import Derived.Test.YtbihdgnhdlpmgaaGreatDoorRanMath
import Derived.Test.YtbihdgnhdlpmgaaGreatDoorCells
namespace Go.Proofs.YtbihdgnhdlpmgaaGreatDoor
open Go.RowKit
theorem checkQ_as (v : V4) (r : Int) (h : verErr v.a v.b v.c v.p.data.toList = r) (w : World) (hE : Env w) (hs : v.p.size ≤ 9223372036854775807) :
    Calls Tryz.prog 21 #[.agg #[.int .i64 v.a, .int .i64 v.b, .int .i64 v.c, .string v.p]] w fun e w' => e = .returned (.int .i64 r) ∧ Below w.heap.size w w' := by
  subst h; exact check_any _ _ _ _ w hE hs
set_option maxRecDepth 100000 in
set_option maxHeartbeats 1000000 in
theorem sign_any (op : Int) (w : World) :
    Calls Tryz.prog 65 #[.int .i64 op] w fun e w' => e = .returned (.string (S (signL op))) ∧ w' = w := by
  by_cases h1 : op = 1
  · subst h1
    go_enter Tryz.func65, Tryz.ntmps65
    go_wp2_with fail
    go_ret
    exact ⟨rfl, rfl⟩
  by_cases h2 : op = 2
  · subst h2
    go_enter Tryz.func65, Tryz.ntmps65
    go_wp2_with fail
    go_ret
    exact ⟨rfl, rfl⟩
  by_cases h3 : op = 3
  · subst h3
    go_enter Tryz.func65, Tryz.ntmps65
    go_wp2_with fail
    go_ret
    exact ⟨rfl, rfl⟩
  by_cases h4 : op = 4
  · subst h4
    go_enter Tryz.func65, Tryz.ntmps65
    go_wp2_with fail
    go_ret
    exact ⟨rfl, rfl⟩
  by_cases h5 : op = 5
  · subst h5
    go_enter Tryz.func65, Tryz.ntmps65
    go_wp2_with fail
    go_ret
    exact ⟨rfl, rfl⟩
  have q1 : (op == 1) = false := by simpa using h1
  have q2 : (op == 2) = false := by simpa using h2
  have q3 : (op == 3) = false := by simpa using h3
  have q4 : (op == 4) = false := by simpa using h4
  have q5 : (op == 5) = false := by simpa using h5
  have H : Hid (signL op = []) := by show _ = _; unfold signL; rw [if_neg h1, if_neg h2, if_neg h3, if_neg h4, if_neg h5]
  clear h1 h2 h3 h4 h5
  go_enter Tryz.func65, Tryz.ntmps65
  go_wp2_with fail
  go_ret
  exact ⟨by rw [H.out]; rfl, rfl⟩
theorem sign_as (op : Int) (A : ByteArray) (h : S (signL op) = A) (w : World) :
    Calls Tryz.prog 65 #[.int .i64 op] w fun e w' => e = .returned (.string A) ∧ w' = w := by
  subst h; exact sign_any op w
theorem sign_empty (op : Int) : (signL op).isEmpty = !opOk op := by
  by_cases h : opOk op = true
  · simp [opOk] at h
    have h2 : op = 1 ∨ op = 2 ∨ op = 3 ∨ op = 4 ∨ op = 5 := by omega
    rcases h2 with rfl | rfl | rfl | rfl | rfl <;> decide
  · have h' : opOk op = false := by simpa using h
    rw [h']
    simp [opOk] at h'
    unfold signL
    rw [if_neg (by omega), if_neg (by omega), if_neg (by omega), if_neg (by omega), if_neg (by omega)]
    rfl
def CkRel (bs : List Bnd) (w : World) (i : Value) (wr : World) : Prop :=
  ∃ k : Nat, k ≤ bs.length ∧ i = .int .i64 (k : Int) ∧ (bs.take k).all Bnd.ok = true ∧ Below w.heap.size w wr
theorem ran_no {bs : List Bnd} {b : Bnd} (h : b ∈ bs) (hb : b.ok = false) : rangeErr bs = 50 := by
  have : rangeOk bs = false := by
    rw [Bool.eq_false_iff]; intro hr
    have := (rangeOk_all hr).2 b h
    rw [hb] at this; cases this
  unfold rangeErr; rw [this]; rfl
set_option maxRecDepth 100000 in
set_option maxHeartbeats 2000000 in
theorem rcheck_any (v : Value) (bs : List Bnd) (w : World) (hv : Bnds w v bs) (hlen : ∃ a cap, v = .slice a bs.length cap) (hE : Env w) (hp : ∀ x ∈ bs, x.v.p.size ≤ 9223372036854775807) :
    Calls Tryz.prog 36 #[v] w fun e w' => e = .returned (.int .i64 (rangeErr bs)) ∧ Below w.heap.size w w' := by
  have HP := Lib.hid hp
  have HE := Lib.hid hE
  clear hp hE
  obtain ⟨a0, cap0, rfl⟩ := hlen
  by_cases hbig : 20 < bs.length
  · have q : decide (20 < (bs.length : Int)) = true := by simp; omega
    have HF : Hid (rangeErr bs = 50) := by
      show _ = _
      unfold rangeErr rangeOk
      rw [decide_eq_false (by omega)]; rfl
    clear hv hbig
    go_enter Tryz.func36, Tryz.ntmps36
    go_wp2_with fail
    go_ret
    exact ⟨by rw [HF.out]; rfl, Below.refl _ _⟩
  have q : decide (20 < (bs.length : Int)) = false := by simp; omega
  have hs20 : bs.length ≤ 20 := by omega
  have HC := Lib.hid hv.cases.2
  clear hv hbig
  go_enter Tryz.func36, Tryz.ntmps36
  go_wp2_with fail
  go_loopw [4, 10] (fun _ i wr => CkRel bs w i wr) (fun _ i _ => bs.length - (intOf i).toNat)
  case atStart => exact ⟨0, Nat.zero_le _, rfl, rfl, Below.refl _ _⟩
  case round =>
    obtain ⟨k, hk, rfl, hall, hb⟩ := hrel
    have HA := Lib.hid hall
    clear hall
    by_cases hlt : k < bs.length
    · have i0 : (0 : Int) ≤ (k : Int) := by omega
      have i1 : (k : Int) < (bs.length : Int) := by omega
      obtain ⟨bx, ox, cap, hva, hn0, hbx, hc⟩ : ∃ b off cap, (Value.slice a0 bs.length cap0 = Value.slice (some ⟨b, off, none⟩) bs.length cap) ∧ 0 < bs.length ∧ b < w.heap.size ∧ ∀ j (h : j < bs.length), w.cell? ⟨b, off + j * 5, none⟩ = some (.int .i64 bs[j].op) ∧
          w.cell? ⟨b, off + j * 5 + 1, none⟩ = some (.int .i64 bs[j].v.a) ∧ w.cell? ⟨b, off + j * 5 + 2, none⟩ = some (.int .i64 bs[j].v.b) ∧ w.cell? ⟨b, off + j * 5 + 3, none⟩ = some (.int .i64 bs[j].v.c) ∧
          w.cell? ⟨b, off + j * 5 + 4, none⟩ = some (.string bs[j].v.p) := by
        rcases HC.out with ⟨a, cap, hva, he⟩ | h
        · rw [he] at hlt; simp at hlt
        · exact h
      have ha0 : a0 = some ⟨bx, ox, none⟩ := by injection hva
      subst ha0
      obtain ⟨g0, g1, g2, g3, g4⟩ := hc k hlt
      have c0 := (hb.cell (p := ⟨bx, ox + k * 5, none⟩) hbx).trans g0
      have c1 := (hb.cell (p := ⟨bx, ox + k * 5 + 1, none⟩) hbx).trans g1
      have c2 := (hb.cell (p := ⟨bx, ox + k * 5 + 2, none⟩) hbx).trans g2
      have c3 := (hb.cell (p := ⟨bx, ox + k * 5 + 3, none⟩) hbx).trans g3
      have c4 := (hb.cell (p := ⟨bx, ox + k * 5 + 4, none⟩) hbx).trans g4
      have hpx := HP.out _ (List.getElem_mem hlt)
      have hmem := List.getElem_mem hlt
      obtain ⟨x, hxe⟩ : ∃ x, bs[k] = x := ⟨_, rfl⟩
      rw [hxe] at c0 c1 c2 c3 c4 hpx hmem
      have HT := Lib.hid (List.take_succ_eq_append_getElem hlt)
      have HX := Lib.hid hxe
      have HM := Lib.hid hmem
      obtain ⟨A, hA⟩ : ∃ A, S (signL x.op) = A := ⟨_, rfl⟩
      have HSA := Lib.hid hA
      have hAe : A.toList.isEmpty = !opOk x.op := by rw [← hA, S_toList]; exact sign_empty _
      clear g0 g1 g2 g3 g4 hxe hc hva hmem hA
      by_cases ho : opOk x.op = true
      · rw [ho] at hAe
        simp only [Bool.not_true] at hAe
        obtain ⟨r, hr⟩ : ∃ r, verErr x.v.a x.v.b x.v.c x.v.p.data.toList = r := ⟨_, rfl⟩
        have HR := Lib.hid hr
        have HO := Lib.hid ho
        clear hr ho
        go_wp2_with fail
        refine (sign_as x.op A HSA.out _).mono ?_
        rintro e w1 ⟨rfl, rfl⟩
        go_wp2_with fail
        refine (checkQ_as x.v r HR.out _ ((HE.out.below hb).alloc _) hpx).mono ?_
        rintro e w2 ⟨rfl, hb2⟩
        have hb3 := below_then hb (below_first (box_of hb2))
        by_cases hz : r = 0
        · have hq : (r != 0) = false := by simpa using hz
          have HOK : Hid (x.ok = true) := by
            show _ = _
            unfold Bnd.ok V4.ok
            rw [HO.out, Bool.true_and]
            have h := HR.out
            rw [hz] at h
            unfold verErr at h
            by_cases hv : verOk x.v.a x.v.b x.v.c x.v.p.data.toList = true
            · exact hv
            · rw [if_neg hv] at h; cases h
          clear hz
          go_wp2_with fail
          go_roundw
          case rel =>
            refine ⟨k + 1, hlt, by go_num, ?_, hb3⟩
            rw [HT.out, List.all_append, HA.out, HX.out]; simp [HOK.out]
          case measure => simp [intOf]; omega
        · have hq : (r != 0) = true := by simpa using hz
          have HF : Hid (rangeErr bs = 50) := by
            refine ran_no HM.out ?_
            unfold Bnd.ok V4.ok
            rw [HO.out, Bool.true_and, Bool.eq_false_iff]
            intro hv
            have h := HR.out
            unfold verErr at h
            rw [if_pos hv] at h
            exact hz h.symm
          clear hz
          go_wp2_with fail
          go_ret
          exact ⟨by rw [HF.out]; rfl, hb3⟩
      · rw [Bool.not_eq_true] at ho
        rw [ho] at hAe
        simp only [Bool.not_false] at hAe
        have HF : Hid (rangeErr bs = 50) := by
          refine ran_no HM.out ?_
          unfold Bnd.ok; rw [ho]; rfl
        clear ho
        have hb3 := hb.alloc (hb.size) (.cells #[.int .i64 x.op, .int .i64 x.v.a, .int .i64 x.v.b, .int .i64 x.v.c, .string x.v.p] 88)
        go_wp2_with fail
        refine (sign_as x.op A HSA.out _).mono ?_
        rintro e w1 ⟨rfl, rfl⟩
        go_wp2_with fail
        go_ret
        exact ⟨by rw [HF.out]; rfl, hb3⟩
    · have q2 : decide (k < bs.length) = false := by simp; omega
      obtain rfl : k = bs.length := by omega
      have HF : Hid (rangeErr bs = 0) := by
        show _ = _
        have h := HA.out
        rw [List.take_of_length_le (Nat.le_refl _)] at h
        unfold rangeErr rangeOk
        rw [h, decide_eq_true hs20]; rfl
      go_wp2_with fail
      go_ret
      exact ⟨by rw [HF.out]; rfl, hb⟩
end Go.Proofs.YtbihdgnhdlpmgaaGreatDoor
