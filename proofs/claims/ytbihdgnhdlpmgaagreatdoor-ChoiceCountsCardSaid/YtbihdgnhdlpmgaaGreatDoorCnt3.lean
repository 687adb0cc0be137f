/- Choices: the reference's Count: the walk. -/
import Derived.Test.YtbihdgnhdlpmgaaGreatDoorChCounts
import Derived.Test.YtbihdgnhdlpmgaaGreatDoorTabFirst
namespace Go
open Go.RowKit
theorem satInv.rstep {m n P K : Nat} (h : satInv m n P) (hK : 0 < K) : satInv m (min (K * n) m) (P * max K 1) := by
  obtain ⟨h1, h2, h3⟩ := h
  have hmk : max K 1 = K := by omega
  rw [hmk]
  have hPK : P ≤ P * K := Nat.le_mul_of_pos_right P hK
  refine ⟨?_, .inl (by omega), by omega⟩
  by_cases hP : P < m
  · have : n = P := by omega
    subst this
    rw [Nat.mul_comm]; omega
  · have hn : m ≤ n := by omega
    have : n ≤ K * n := Nat.le_mul_of_pos_left n hK
    omega
theorem ways_zero {ns : List (Want × Value)} {p : DPack} : waysN ns p = 0 ↔ p.os.length = 0 ∧ (ns.any fun x => decide (x.1.name = p.name.data.toList)) = true := by
  unfold waysN
  split
  · rename_i h; simp [h]
  · rename_i h; simp [h]
theorem rcount_end {ns : List (Want × Value)} {ts : List DPack} {m n : Nat} (h : satInv m n (prodN (ts.map (waysN ns)))) (hz : ∀ p ∈ ts, waysN ns p ≠ 0) : ((min n m : Nat) : Int) = countN ns ts (m : Int) := by
  unfold countN
  rw [if_neg (by
    rintro (h | h)
    · omega
    · obtain ⟨p, hp, h⟩ := List.any_eq_true.1 h
      exact hz p hp (of_decide_eq_true h))]
  have e : (m : Int).toNat = m := rfl
  rw [e, ← h.1]
end Go
namespace Go.Proofs.YtbihdgnhdlpmgaaGreatDoor
open Go.RowKit Go.Maps
def RcA (ns : List (Want × Value)) (ts : List DPack) (w : World) (i : Value) (wr : World) : Prop :=
  ∃ k : Nat, k ≤ ts.length ∧ i = .int .i64 (k : Int) ∧ (∀ p ∈ ts.take k, waysN ns p ≠ 0) ∧ Below w.heap.size w wr
def RcB (ns : List (Want × Value)) (ts : List DPack) (m : Nat) (w : World) (x i : Value) (wr : World) : Prop :=
  ∃ k n : Nat, k ≤ ts.length ∧ i = .int .i64 (k : Int) ∧ x = .int .i64 (n : Int) ∧ satInv m n (prodN ((ts.take k).map (waysN ns))) ∧ n ≤ 9223372036854775807 ∧ Below w.heap.size w wr
def RcC (n K m : Nat) (W : World) (x i : Value) (wr : World) : Prop :=
  ∃ j : Nat, j ≤ K ∧ i = .int .i64 (j : Int) ∧ x = .int .i64 ((min (j * n) m : Nat) : Int) ∧ wr = W
set_option maxRecDepth 100000 in
set_option maxHeartbeats 8000000 in
theorem rcount_any (pk nv : Value) (ts : List DPack) (ns : List (Want × Value)) (most : Int) (w : World) (hp : Packs w pk ts) (hn : Wants w nv ns) (h1 : most ≤ 9223372036854775807) (hos : ∀ p ∈ ts, p.os.length ≤ 1000000) :
    Calls Tryz.prog 20 #[pk, nv, .int .i64 most] w fun e w' => e = .returned (.int .i64 (countN ns ts most)) ∧ Below w.heap.size w w' := by
  obtain ⟨hmx, a0, cap0, rfl⟩ := hp.len
  obtain ⟨_, a2, cap2, rfl⟩ := hn.len
  have hmx2 : ts.length ≤ 9223372036854775807 := Nat.le_trans hmx (by decide)
  have HP := Lib.hid hp
  have HN := Lib.hid hn
  have HOs := Lib.hid hos
  clear hp hn hmx hos
  by_cases hm : most < 0
  · have q0 : decide (most < 0) = true := decide_eq_true hm
    have HF : Hid (countN ns ts most = 0) := count_zero (.inl hm)
    clear hm
    go_enter Tryz.func20, Tryz.ntmps20
    go_wp2_with fail
    go_ret
    exact ⟨by rw [HF.out]; rfl, Below.refl _ _⟩
  obtain ⟨m, rfl⟩ := Int.eq_ofNat_of_zero_le (Int.not_lt.1 hm)
  have hm9 : m ≤ 9223372036854775807 := by omega
  clear hm h1
  go_enter Tryz.func20, Tryz.ntmps20
  go_wp2_with fail
  go_loopw [7] (fun i wr => RcA ns ts w i wr) (fun i _ => ts.length - (intOf i).toNat)
  case atStart => exact ⟨0, Nat.zero_le _, rfl, by simp, Below.refl _ _⟩
  case round =>
    obtain ⟨k, hk, rfl, hall, hb⟩ := hrel
    have HA := Lib.hid hall
    clear hall
    by_cases hlt : k < ts.length
    · have i0 : (0 : Int) ≤ (k : Int) := by omega
      have i1 : (k : Int) < (ts.length : Int) := by omega
      obtain ⟨bp, op, rfl, hbp, c0, c1⟩ := HP.out.at' hb hlt
      obtain ⟨⟨pn, po, pa, pc⟩, hxe⟩ : ∃ x, ts[k] = x := ⟨_, rfl⟩
      rw [hxe] at c0 c1
      simp only [DPack.ov] at c0 c1
      have HX := Lib.hid hxe
      obtain ⟨ak, hak⟩ : ∃ b, askedB ns pn = b := ⟨_, rfl⟩
      have HAs := Lib.hid (rasked_any _ ns pn wr (HN.out.below hb (Nat.le_refl _)))
      rw [hak] at HAs
      have HAk := Lib.hid hak
      clear hxe hak
      by_cases h0 : po.length = 0
      · have q0 : ((po.length : Int) == 0) = true := by rw [h0]; rfl
        have H0 := Lib.hid h0
        clear h0
        go_wp2_with fail
        refine HAs.out.mono ?_
        rintro e w1 ⟨rfl, hb1⟩
        have hb2 := below_then hb hb1
        cases ak
        · clear c0 c1 hb1
          go_wp2_with fail
          go_roundw
          case rel => exact ⟨k + 1, hlt, by go_num, take_all hlt HX.out HA.out (fun h => by have := (ways_zero.1 h).2; have h2 := HAk.out; unfold askedB at h2; rw [h2] at this; cases this), hb2⟩
          case measure => simp [intOf]; omega
        · have HF : Hid (countN ns ts (m : Int) = 0) := count_zero (.inr (List.any_eq_true.2 ⟨ts[k], List.getElem_mem hlt, decide_eq_true (by rw [HX.out]; exact ways_zero.2 ⟨H0.out, HAk.out⟩)⟩))
          clear c0 c1 hb1
          go_wp2_with fail
          go_ret
          exact ⟨by rw [HF.out]; rfl, hb2⟩
      · have q0 : ((po.length : Int) == 0) = false := by rw [beq_eq_false_iff_ne]; omega
        have H0 := Lib.hid h0
        clear h0
        go_wp2_with fail
        go_roundw
        case rel => exact ⟨k + 1, hlt, by go_num, take_all hlt HX.out HA.out (fun h => H0.out (ways_zero.1 h).1), hb⟩
        case measure => simp [intOf]; omega
    · have q5 : decide (k < ts.length) = false := decide_eq_false hlt
      have HZ : Hid (∀ p ∈ ts, waysN ns p ≠ 0) := by
        have h := HA.out
        rw [List.take_of_length_le (Nat.le_of_not_lt hlt)] at h
        exact h
      clear hlt
      go_wp2_with fail
      obtain ⟨w7, rfl⟩ : ∃ x, x = wr := ⟨_, rfl⟩
      go_loopw [8, 9] (fun x i wr => RcB ns ts m w x i wr) (fun _ i _ => ts.length - (intOf i).toNat)
      case atStart => exact ⟨0, 1, Nat.zero_le _, rfl, rfl, satInv.start m, by omega, hb⟩
      case round =>
        obtain ⟨k, n, hk, rfl, rfl, hinv, hn9, hb⟩ := hrel
        have HI := Lib.hid hinv
        clear hinv
        by_cases hlt : k < ts.length
        · have i0 : (0 : Int) ≤ (k : Int) := by omega
          have i1 : (k : Int) < (ts.length : Int) := by omega
          obtain ⟨bp, op, rfl, hbp, c0, c1⟩ := HP.out.at' hb hlt
          have hol := HOs.out _ (List.getElem_mem hlt)
          have hz := HZ.out _ (List.getElem_mem hlt)
          obtain ⟨⟨pn, po, pa, pc⟩, hxe⟩ : ∃ x, ts[k] = x := ⟨_, rfl⟩
          rw [hxe] at c0 c1 hol hz
          simp only [DPack.ov] at c0 c1 hol
          have HX := Lib.hid hxe
          have HT := Lib.hid (List.take_succ_eq_append_getElem hlt)
          obtain ⟨ak, hak⟩ : ∃ b, askedB ns pn = b := ⟨_, rfl⟩
          have HAs := Lib.hid (rasked_any _ ns pn wr (HN.out.below hb (Nat.le_refl _)))
          rw [hak] at HAs
          obtain ⟨K, hK⟩ : ∃ K, waysN ns ⟨pn, po, pa, pc⟩ = K := ⟨_, rfl⟩
          have hK2 : K = po.length + if ak = true then 0 else 1 := by rw [← hK, ← hak]; rfl
          have hKl : K ≤ 1000001 := by rw [hK2]; split <;> omega
          have hK0 : 0 < K := by rw [hK] at hz; omega
          have HK := Lib.hid hK
          have HK2 := Lib.hid hK2
          clear hxe hak hK hK2 hz
          go_wp2_with fail
          refine HAs.out.mono ?_
          rintro e w1 ⟨rfl, hb1⟩
          have hb2 := below_then hb hb1
          clear c0 c1 hb1
          go_upto_if 56 with fail
          go_cut [10] (fun x wx => x = .int .i64 (K : Int) ∧ wx = w1)
          case first =>
            cases ak
            · have h := HK2.out
              simp only [Bool.false_eq_true, if_false] at h
              subst h
              go_wp2_with fail
              go_meet
              case rel => exact ⟨by go_num, rfl⟩
            · have h := HK2.out
              simp only [if_true, Nat.add_zero] at h
              subst h
              go_wp2_with fail
              go_meet
              case rel => exact ⟨rfl, rfl⟩
          case rest =>
            obtain ⟨rfl, rfl⟩ := hcut
            go_wp2_with fail
            obtain ⟨w8, rfl⟩ : ∃ x, x = wc := ⟨_, rfl⟩
            go_loopw [11, 12] (fun x i wy => RcC n K m w8 x i wy) (fun _ i _ => K - (intOf i).toNat)
            case atStart => exact ⟨0, Nat.zero_le _, rfl, by simp, rfl⟩
            case round =>
              obtain ⟨j, hj, rfl, rfl, rfl⟩ := hrel
              obtain ⟨s, hs⟩ : ∃ s, min (j * n) m = s := ⟨_, rfl⟩
              have hs2 : s ≤ m := by omega
              rw [hs]
              have HS := Lib.hid hs
              clear hs
              by_cases hlj : j < K
              · by_cases hsm : s < m
                · have hjn := Lib.hid (show s = j * n by have := HS.out; omega)
                  have j0 : decide (j < K) = true := decide_eq_true hlj
                  have q1 : decide (s < m) = true := decide_eq_true hsm
                  by_cases hgt : (m : Int) - (s : Int) < (n : Int)
                  · have q2 : decide ((m : Int) - (s : Int) < (n : Int)) = true := decide_eq_true hgt
                    have HN2 : Hid (min ((j + 1) * n) m = m) := by show _ = _; have := hjn.out; rw [Nat.add_mul]; omega
                    clear hgt hsm
                    go_wp2_with fail
                    go_roundw
                    case rel => exact ⟨j + 1, hlj, by go_num, by rw [HN2.out], rfl⟩
                    case measure => simp [intOf]; omega
                  · have q2 : decide ((m : Int) - (s : Int) < (n : Int)) = false := decide_eq_false hgt
                    have HN2 : Hid (min ((j + 1) * n) m = s + n) := by show _ = _; have := hjn.out; rw [Nat.add_mul]; omega
                    have hsn : s + n ≤ 9223372036854775807 := by omega
                    clear hgt hsm
                    go_wp2_with fail
                    go_roundw
                    case rel => exact ⟨j + 1, hlj, by go_num, by rw [HN2.out]; go_num, rfl⟩
                    case measure => simp [intOf]; omega
                · have q1 : decide (s < m) = false := decide_eq_false hsm
                  have HE : Hid (min (K * n) m = s) := by
                    show _ = _
                    have h1 := HS.out
                    have h2 : j * n ≤ K * n := Nat.mul_le_mul_right n (Nat.le_of_lt hlj)
                    omega
                  have hs9 : s ≤ 9223372036854775807 := by omega
                  clear hsm
                  go_wp2_with fail
                  go_roundw
                  case rel =>
                    refine ⟨k + 1, s, hlt, by go_num, rfl, ?_, hs9, hb2⟩
                    have e : prodN ((ts.take (k + 1)).map (waysN ns)) = prodN ((ts.take k).map (waysN ns)) * max K 1 := by rw [HT.out, List.map_append, HX.out]; unfold prodN; rw [List.foldl_append]; show _ * max (waysN ns ⟨pn, po, pa, pc⟩) 1 = _; rw [HK.out]
                    rw [e, ← HE.out]; exact HI.out.rstep hK0
                  case measure => simp [intOf]; omega
              · have hjK : j = K := by omega
                have q0 : decide (j < K) = false := decide_eq_false hlj
                have HE : Hid (min (K * n) m = s) := by show _ = _; rw [← hjK]; exact HS.out
                have hs9 : s ≤ 9223372036854775807 := by omega
                clear hlj hjK
                go_wp2_with fail
                go_roundw
                case rel =>
                  refine ⟨k + 1, s, hlt, by go_num, rfl, ?_, hs9, hb2⟩
                  have e : prodN ((ts.take (k + 1)).map (waysN ns)) = prodN ((ts.take k).map (waysN ns)) * max K 1 := by rw [HT.out, List.map_append, HX.out]; unfold prodN; rw [List.foldl_append]; show _ * max (waysN ns ⟨pn, po, pa, pc⟩) 1 = _; rw [HK.out]
                  rw [e, ← HE.out]; exact HI.out.rstep hK0
                case measure => simp [intOf]; omega
        · have q5 : decide (k < ts.length) = false := decide_eq_false hlt
          have HE : Hid (((min n m : Nat) : Int) = countN ns ts (m : Int)) := by
            have h := HI.out
            rw [List.take_of_length_le (Nat.le_of_not_lt hlt)] at h
            exact rcount_end h HZ.out
          clear hlt
          by_cases hnm : m < n
          · have q6 : decide (m < n) = true := decide_eq_true hnm
            have HF : Hid (countN ns ts (m : Int) = (m : Int)) := by show _ = _; rw [← HE.out]; omega
            clear hnm
            go_wp2_with fail
            go_ret
            exact ⟨by rw [HF.out]; rfl, hb⟩
          · have q6 : decide (m < n) = false := decide_eq_false hnm
            have HF : Hid (countN ns ts (m : Int) = (n : Int)) := by show _ = _; rw [← HE.out]; omega
            clear hnm
            go_wp2_with fail
            go_ret
            exact ⟨by rw [HF.out]; rfl, hb⟩
end Go.Proofs.YtbihdgnhdlpmgaaGreatDoor
