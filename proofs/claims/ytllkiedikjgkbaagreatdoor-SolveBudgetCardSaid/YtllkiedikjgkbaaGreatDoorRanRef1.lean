/- The reference of layer 5: sign, Check: walks. -/
import Derived.Test.YtllkiedikjgkbaaGreatDoorSeC
import Derived.Test.YtllkiedikjgkbaaGreatDoorSemRefs
namespace Go.Proofs.YtllkiedikjgkbaaGreatDoor
open Go.RowKit
set_option maxRecDepth 100000 in
set_option maxHeartbeats 1000000 in
theorem rsign_any (op : Int) (w : World) :
    Calls Tryz.prog 125 #[.int .i64 op] w fun e w' => e = .returned (.string (S (signL op))) ∧ Below w.heap.size w w' := by
  by_cases h1 : op < 1
  · have q1 : decide (op < 1) = true := decide_eq_true h1
    have H : Hid (signL op = []) := by show _ = _; unfold signL; rw [if_neg (by omega), if_neg (by omega), if_neg (by omega), if_neg (by omega), if_neg (by omega)]
    clear h1
    go_enter Tryz.func125, Tryz.ntmps125
    go_wp2_with fail
    go_ret
    exact ⟨by rw [H.out]; rfl, Below.refl _ _⟩
  have q1 : decide (op < 1) = false := decide_eq_false h1
  by_cases h2 : 5 < op
  · have q2 : decide (5 < op) = true := decide_eq_true h2
    have H : Hid (signL op = []) := by show _ = _; unfold signL; rw [if_neg (by omega), if_neg (by omega), if_neg (by omega), if_neg (by omega), if_neg (by omega)]
    clear h1 h2
    go_enter Tryz.func125, Tryz.ntmps125
    go_wp2_with fail
    go_ret
    exact ⟨by rw [H.out]; rfl, Below.refl _ _⟩
  have h3 : op = 1 ∨ op = 2 ∨ op = 3 ∨ op = 4 ∨ op = 5 := by omega
  clear h1 h2 q1
  rcases h3 with rfl | rfl | rfl | rfl | rfl
  all_goals
    go_enter Tryz.func125, Tryz.ntmps125
    go_wp2_with fail
    go_ret
    exact ⟨rfl, (Below.refl _ _).alloc (Nat.le_refl _) _⟩
theorem rsign_as (op : Int) (A : ByteArray) (h : S (signL op) = A) (w : World) :
    Calls Tryz.prog 125 #[.int .i64 op] w fun e w' => e = .returned (.string A) ∧ Below w.heap.size w w' := by
  subst h; exact rsign_any op w
theorem checkRQ_as (v : V4) (r : Int) (h : verErr v.a v.b v.c v.p.data.toList = r) (w : World) (hs : v.p.size ≤ 9223372036854775807) :
    Calls Tryz.prog 86 #[.agg #[.int .i64 v.a, .int .i64 v.b, .int .i64 v.c, .string v.p]] w fun e w' => e = .returned (.int .i64 r) ∧ Below w.heap.size w w' := by
  subst h; exact refCheck_any _ _ _ _ w hs
set_option maxRecDepth 100000 in
set_option maxHeartbeats 2000000 in
theorem rrcheck_any (v : Value) (bs : List Bnd) (w : World) (hv : Bnds w v bs) (hlen : ∃ a cap, v = .slice a bs.length cap) (hp : ∀ x ∈ bs, x.v.p.size ≤ 9223372036854775807) :
    Calls Tryz.prog 109 #[v] w fun e w' => e = .returned (.int .i64 (rangeErr bs)) ∧ Below w.heap.size w w' := by
  have HP := Lib.hid hp
  clear hp
  obtain ⟨a0, cap0, rfl⟩ := hlen
  by_cases hbig : 20 < bs.length
  · have q : decide (20 < (bs.length : Int)) = true := by simp; omega
    have HF : Hid (rangeErr bs = 50) := by
      show _ = _
      unfold rangeErr rangeOk
      rw [decide_eq_false (by omega)]; rfl
    clear hv hbig
    go_enter Tryz.func109, Tryz.ntmps109
    go_wp2_with fail
    go_ret
    exact ⟨by rw [HF.out]; rfl, Below.refl _ _⟩
  have q : decide (20 < (bs.length : Int)) = false := by simp; omega
  have hs20 : bs.length ≤ 20 := by omega
  have HC := Lib.hid hv.cases.2
  clear hv hbig
  go_enter Tryz.func109, Tryz.ntmps109
  go_wp2_with fail
  go_loopw [3] (fun i wr => CkRel bs w i wr) (fun i _ => bs.length - (intOf i).toNat)
  case atStart => exact ⟨0, Nat.zero_le _, rfl, rfl, Below.refl _ _⟩
  case round =>
    obtain ⟨k, hk, rfl, hall, hb⟩ := hrel
    have HA := Lib.hid hall
    clear hall
    by_cases hlt : k < bs.length
    · have i0 : (0 : Int) ≤ (k : Int) := by omega
      have i1 : (k : Int) < (bs.length : Int) := by omega
      obtain ⟨bx, ox, cap, hva, hn0, hbx, hc⟩ : ∃ b off cap, (Value.slice a0 bs.length cap0 = Value.slice (some ⟨b, off, none⟩) bs.length cap) ∧ 0 < bs.length ∧ b < w.heap.size ∧ ∀ j (h : j < bs.length), w.cell? ⟨b, off + j * 5, none⟩ = some (.int .i64 bs[j].op) ∧
          w.cell? ⟨b, off + j * 5 + 1, none⟩ = some (.int .i64 bs[j].v.a) ∧ w.cell? ⟨b, off + j * 5 + 2, none⟩ = some (.int .i64 bs[j].v.b) ∧ w.cell? ⟨b, off + j * 5 + 3, none⟩ = some (.int .i64 bs[j].v.c) ∧
          w.cell? ⟨b, off + j * 5 + 4, none⟩ = some (.string bs[j].v.p) := by
        rcases HC.out with ⟨a, cap, hva, he⟩ | h
        · rw [he] at hlt; simp at hlt
        · exact h
      have ha0 : a0 = some ⟨bx, ox, none⟩ := by injection hva
      subst ha0
      obtain ⟨g0, g1, g2, g3, g4⟩ := hc k hlt
      have c0 := (hb.cell (p := ⟨bx, ox + k * 5, none⟩) hbx).trans g0
      have c1 := (hb.cell (p := ⟨bx, ox + k * 5 + 1, none⟩) hbx).trans g1
      have c2 := (hb.cell (p := ⟨bx, ox + k * 5 + 2, none⟩) hbx).trans g2
      have c3 := (hb.cell (p := ⟨bx, ox + k * 5 + 3, none⟩) hbx).trans g3
      have c4 := (hb.cell (p := ⟨bx, ox + k * 5 + 4, none⟩) hbx).trans g4
      have hpx := HP.out _ (List.getElem_mem hlt)
      have hmem := List.getElem_mem hlt
      obtain ⟨x, hxe⟩ : ∃ x, bs[k] = x := ⟨_, rfl⟩
      rw [hxe] at c0 c1 c2 c3 c4 hpx hmem
      have HT := Lib.hid (List.take_succ_eq_append_getElem hlt)
      have HX := Lib.hid hxe
      have HM := Lib.hid hmem
      clear g0 g1 g2 g3 g4 hxe hc hva hmem
      have hopk : opOk x.op = true ↔ (1 ≤ x.op ∧ x.op ≤ 5) := by unfold opOk; simp
      by_cases ho1 : x.op < 1
      · have q1 : decide (x.op < 1) = true := decide_eq_true ho1
        have HF : Hid (rangeErr bs = 50) := by
          refine ran_no HM.out ?_
          unfold Bnd.ok; rw [show opOk x.op = false by rw [Bool.eq_false_iff]; intro h; have := hopk.1 h; omega]; rfl
        clear ho1 hopk
        go_wp2_with fail
        go_ret
        exact ⟨by rw [HF.out]; rfl, hb⟩
      have q1 : decide (x.op < 1) = false := decide_eq_false ho1
      by_cases ho2 : 5 < x.op
      · have q2 : decide (5 < x.op) = true := decide_eq_true ho2
        have HF : Hid (rangeErr bs = 50) := by
          refine ran_no HM.out ?_
          unfold Bnd.ok; rw [show opOk x.op = false by rw [Bool.eq_false_iff]; intro h; have := hopk.1 h; omega]; rfl
        clear ho1 ho2 hopk
        go_wp2_with fail
        go_ret
        exact ⟨by rw [HF.out]; rfl, hb⟩
      have q2 : decide (5 < x.op) = false := decide_eq_false ho2
      have HO : Hid (opOk x.op = true) := hopk.2 ⟨by omega, by omega⟩
      obtain ⟨r, hr⟩ : ∃ r, verErr x.v.a x.v.b x.v.c x.v.p.data.toList = r := ⟨_, rfl⟩
      have HR := Lib.hid hr
      clear hr ho1 ho2 hopk
      go_wp2_with fail
      refine (checkRQ_as x.v r HR.out _ hpx).mono ?_
      rintro e w2 ⟨rfl, hb2⟩
      have hb3 := below_then hb hb2
      by_cases hz : r = 0
      · have hq : (r != 0) = false := by simpa using hz
        have HOK : Hid (x.ok = true) := by
          show _ = _
          unfold Bnd.ok V4.ok
          rw [HO.out, Bool.true_and]
          have h := HR.out
          rw [hz] at h
          unfold verErr at h
          by_cases hv : verOk x.v.a x.v.b x.v.c x.v.p.data.toList = true
          · exact hv
          · rw [if_neg hv] at h; cases h
        clear hz
        go_wp2_with fail
        go_roundw
        case rel =>
          refine ⟨k + 1, hlt, by go_num, ?_, hb3⟩
          rw [HT.out, List.all_append, HA.out, HX.out]; simp [HOK.out]
        case measure => simp [intOf]; omega
      · have hq : (r != 0) = true := by simpa using hz
        have HF : Hid (rangeErr bs = 50) := by
          refine ran_no HM.out ?_
          unfold Bnd.ok V4.ok
          rw [HO.out, Bool.true_and, Bool.eq_false_iff]
          intro hv
          have h := HR.out
          unfold verErr at h
          rw [if_pos hv] at h
          exact hz h.symm
        clear hz
        go_wp2_with fail
        go_ret
        exact ⟨by rw [HF.out]; rfl, hb3⟩
    · have q2 : decide (k < bs.length) = false := by simp; omega
      obtain rfl : k = bs.length := by omega
      have HF : Hid (rangeErr bs = 0) := by
        show _ = _
        have h := HA.out
        rw [List.take_of_length_le (Nat.le_refl _)] at h
        unfold rangeErr rangeOk
        rw [h, decide_eq_true hs20]; rfl
      go_wp2_with fail
      go_ret
      exact ⟨by rw [HF.out]; rfl, hb⟩
end Go.Proofs.YtllkiedikjgkbaaGreatDoor
