/- Locks: the reference's Parse: a walk. -/
import Derived.Test.YtboajinaiceekaaGreatDoorLockRef3
import Derived.Test.YtboajinaiceekaaGreatDoorLockMath9
import Derived.Test.YtboajinaiceekaaGreatDoorSplRef
import Derived.Test.YtboajinaiceekaaGreatDoorSemRefB
import Derived.Test.YtboajinaiceekaaGreatDoorLock7
namespace Go
open Go.RowKit
theorem cells5_atL (w : World) (B : Nat) (hB : B = w.heap.size) (a b c d e : Value) (t : TypeId) : ∀ j u, [a, b, c, d, e][j]? = some u → (w.alloc (.cells #[a, b, c, d, e] t)).cell? ((⟨B, 0, none⟩ : Addr).add j) = some u := by
  subst hB
  intro j u hj
  match j, hj with
  | 0, hj => simp at hj; subst hj; simp [Addr.add]
  | 1, hj => simp at hj; subst hj; simp [Addr.add]
  | 2, hj => simp at hj; subst hj; simp [Addr.add]
  | 3, hj => simp at hj; subst hj; simp [Addr.add]
  | 4, hj => simp at hj; subst hj; simp [Addr.add]
theorem mid_get {L : List (List UInt8)} {k : Nat} (h1 : 1 ≤ k) (h : k < L.length - 2) : ∃ h2 : k - 1 < (midL L).length, (midL L)[k - 1] = L[k]'(by omega) := by
  have h2 : k - 1 < (midL L).length := by rw [mid_len]; omega
  refine ⟨h2, ?_⟩
  rw [mid_at h2 (by omega)]
  congr 1; omega
end Go
namespace Go.Proofs.YtboajinaiceekaaGreatDoor
open Go.RowKit
def RpRel (L : List (List UInt8)) (w2 : World) (v i : Value) (wr : World) : Prop :=
  ∃ (k : Nat) (ps : List Pik), 1 ≤ k ∧ k ≤ L.length - 2 ∧ i = .int .i64 (k : Int) ∧ PickTo (midL L) (k - 1) ps ∧ ps.length = k - 1 ∧ wr.ownsRow w2.heap.size 47 5 v ps.length (ps.flatMap Pik.cells) ∧ (∃ a cap, v = .slice a ps.length cap) ∧ Below w2.heap.size w2 wr
set_option maxRecDepth 100000 in
set_option maxHeartbeats 4000000 in
theorem rlparse_any (s : ByteArray) (w : World) (hs : s.size ≤ 20000) : Calls Tryz.prog 14 #[.string s] w (LockPost s.data.toList w) := by
  by_cases hbig : 5000 < s.size
  · have q1 : decide ((5000 : Int) < (s.size : Int)) = true := decide_eq_true (by omega)
    have q1' : decide (5000 < s.size) = true := decide_eq_true hbig
    have HN := Lib.hid (ref_big (s := s.data.toList) (by rw [← Lib.size_eq]; exact hbig))
    clear hbig
    go_enter Tryz.func14, Tryz.ntmps14
    go_wp2_with fail
    go_ret2
    exact lockPost_no HN.out (Below.refl _ _)
  have q1 : decide ((5000 : Int) < (s.size : Int)) = false := decide_eq_false (by omega)
  have q1' : decide (5000 < s.size) = false := decide_eq_false hbig
  have HSp := Lib.hid (fun W => refSplit_any 10 s W (by omega))
  obtain ⟨l, hl⟩ : ∃ l, s.data.toList = l := ⟨_, rfl⟩
  rw [hl] at HSp ⊢
  obtain ⟨L, hL⟩ : ∃ L, sepAt 10 l = L := ⟨_, rfl⟩
  have HLe := Lib.hid hL
  have Hl := Lib.hid hl
  have hL0 : 0 < L.length := by rw [← hL]; exact List.length_pos_iff.2 (sepAt_ne _ _)
  have hll : l.length = s.size := by rw [← hl, ← Lib.size_eq]
  have hLm : L.length ≤ 5001 := by
    rw [← hL, sepAt_count]
    have := List.count_le_length (a := (10 : UInt8)) (l := l)
    omega
  have hLt : ∀ t ∈ L, t.length ≤ 5000 := fun t ht => by
    rw [← hL] at ht
    have := sepAt_size 10 l t ht
    omega
  have HLt := Lib.hid hLt
  clear hbig hL hl hLt hll
  by_cases h3 : L.length < 3
  · have q2 : decide ((L.length : Int) < 3) = true := decide_eq_true (by omega)
    have q2' : decide (L.length < 3) = true := decide_eq_true h3
    have HN := Lib.hid (ref_short (s := l) (by rw [HLe.out]; exact h3))
    clear h3
    go_enter Tryz.func14, Tryz.ntmps14
    go_wp2_with fail
    refine (HSp.out _).mono ?_
    rintro e w2 ⟨v, N, rfl, hown, hb2⟩
    rw [HLe.out] at hown
    have hN : L.length = N := by have := hown.1; rw [strs_length] at this; omega
    subst hN
    obtain ⟨g, cap, hv2⟩ := Joins.ownsRow_form hown hL0
    subst hv2
    clear hown
    go_wp2_with fail
    go_ret2
    exact lockPost_no HN.out hb2
  have q2 : decide ((L.length : Int) < 3) = false := decide_eq_false (by omega)
  have q2' : decide (L.length < 3) = false := decide_eq_false h3
  have HI := Lib.hid (info_parts info_pick)
  go_enter Tryz.func14, Tryz.ntmps14
  go_wp2_with fail
  refine (HSp.out _).mono ?_
  rintro e w2 ⟨v, N, rfl, hown, hb2⟩
  rw [HLe.out] at hown
  have hN : L.length = N := by have := hown.1; rw [strs_length] at this; omega
  subst hN
  obtain ⟨g, cap, hv2⟩ := Joins.ownsRow_form hown hL0
  subst hv2
  have hg2 := (hown.lt g rfl).2
  have HCl : Hid (∀ j (h : j < L.length), w2.cell? ⟨g, j, none⟩ = some (.string (S L[j]))) := by
    intro j hj
    rw [World.ownsRow.cellAt hown j (by omega), strs_get L j hj]
  clear hown
  go_wp2_with fail
  go_loopw [5, 6] (fun v i wr => RpRel L w2 v i wr) (fun _ i _ => L.length - (intOf i).toNat)
  case atStart => exact ⟨1, [], Nat.le_refl _, by omega, rfl, pickTo_zero _, rfl, World.ownsRow_nil _ _ _ _, ⟨_, _, rfl⟩, Below.refl _ _⟩
  case round =>
    obtain ⟨k, ps, hk1, hk, rfl, hpt, hpn, hown, ⟨va, vcap, rfl⟩, hb⟩ := hrel
    have HPT := Lib.hid hpt
    have HO := Lib.hid hown
    have hbw := below_then hb2 hb
    have HPn := Lib.hid hpn
    have hpl : ps.length ≤ 5001 := by omega
    clear hpt hown hpn
    have e2 : IntKind.i64.wrap ((L.length : Int) - 2) = (L.length : Int) - 2 := by rw [IntKind.wrap_i64]; omega
    by_cases hlt : k < L.length - 2
    · have q3 : decide ((k : Int) < (L.length : Int) - 2) = true := decide_eq_true (by omega)
      have i2 : (0 : Int) ≤ (k : Int) := by omega
      have i3 : (k : Int) < (L.length : Int) := by omega
      have hkL : k < L.length := by omega
      obtain ⟨t, ht⟩ : ∃ t, L[k] = t := ⟨_, rfl⟩
      have c0 := (hb.cell (p := ⟨g, k, none⟩) hg2).trans (HCl.out k hkL)
      rw [ht] at c0
      obtain ⟨A, hA⟩ : ∃ A, S t = A := ⟨_, rfl⟩
      rw [hA] at c0
      have htl : t.length ≤ 5000 := by rw [← ht]; exact HLt.out _ (List.getElem_mem hkL)
      have hAs : A.size ≤ 5000 := by rw [← hA, S_size]; exact htl
      obtain ⟨hkn, hm2⟩ := mid_get hk1 hlt
      rw [ht] at hm2
      have HS2 := fun W => refSplit_any 32 A W (by omega)
      have hAt : A.data.toList = t := by rw [← hA]; rfl
      rw [hAt] at HS2
      have HS2 := Lib.hid HS2
      obtain ⟨ws, hws⟩ : ∃ ws, sepAt 32 t = ws := ⟨_, rfl⟩
      rw [hws] at HS2
      have HWs := Lib.hid hws
      have hw0 : 0 < ws.length := by rw [← hws]; exact List.length_pos_iff.2 (sepAt_ne _ _)
      have hwt : ∀ x ∈ ws, x.length ≤ 5000 := fun x hx => by
        rw [← hws] at hx
        have := sepAt_size 32 t x hx; omega
      have HWt := Lib.hid hwt
      have HM2 := Lib.hid hm2
      clear ht hA hAt hws hwt hm2
      by_cases hwl : ws.length = 2
      rotate_left
      · have q4 : ((ws.length : Int) != 2) = true := by rw [bne_iff_ne]; omega
        have q4' : (ws.length != 2) = true := by rw [bne_iff_ne]; exact hwl
        have HN : Hid (LockIs l [] 370) := by
          show LockIs _ _ _
          have h1 : k - 1 < (midL (sepAt 10 l)).length := by rw [HLe.out]; exact hkn
          refine ref_words h1 ?_
          have e3 : (midL (sepAt 10 l))[k - 1]? = some t := by rw [HLe.out, List.getElem?_eq_getElem hkn, HM2.out]
          rw [List.getElem?_eq_getElem h1] at e3
          injection e3 with e3
          rw [e3, HWs.out]; exact hwl
        clear hwl
        go_wp2_with fail
        refine (HS2.out _).mono ?_
        rintro e w3 ⟨v3, N3, rfl, hown3, hb3⟩
        have hN3 : ws.length = N3 := by have := hown3.1; rw [strs_length] at this; omega
        subst hN3
        obtain ⟨g3, cap3, hv3⟩ := Joins.ownsRow_form hown3 hw0
        subst hv3
        have hb4 := below_then hbw hb3
        clear hown3
        go_wp2_with fail
        go_ret2
        exact lockPost_no HN.out hb4
      obtain ⟨n, vt, hwe⟩ : ∃ n vt, ws = [n, vt] := by
        match ws, hwl with
        | [a, b], _ => exact ⟨a, b, rfl⟩
      subst hwe
      obtain ⟨htw1, htw2⟩ := two_words HWs.out
      have hvl : vt.length ≤ 5000 := HWt.out _ (by simp)
      have HPa := fun W => refParse_any (S vt) W (by rw [S_size]; omega)
      rw [show (S vt).data.toList = vt from rfl] at HPa
      have HPa := Lib.hid HPa
      have HTw1 := Lib.hid htw1
      have HTw2 := Lib.hid htw2
      have HYes : Hid (∀ x : V4, x.IsShow vt → PickTo (midL L) (k + 1 - 1) (ps ++ [⟨S n, x⟩])) := by
        show ∀ x, _ → PickTo _ _ _
        intro x hx
        have := pickTo_succ (v := x) HPT.out hkn (by rw [HM2.out, htw2]; exact hx)
        rw [HM2.out, htw1] at this
        rw [show k + 1 - 1 = k - 1 + 1 by omega]
        exact this
      have HNo : Hid ((∀ x y z p, ¬ IsShow x y z p vt) → LockIs l [] 370) := by
        show _ → _
        intro h
        have h1 : k - 1 < (midL (sepAt 10 l)).length := by rw [HLe.out]; exact hkn
        refine ref_ver h1 ?_
        have e3 : (midL (sepAt 10 l))[k - 1]? = some t := by rw [HLe.out, List.getElem?_eq_getElem hkn, HM2.out]
        rw [List.getElem?_eq_getElem h1] at e3
        injection e3 with e3
        rw [e3, htw2]; exact h
      obtain ⟨P, hP⟩ : ∃ P, S n = P := ⟨_, rfl⟩
      obtain ⟨Q, hQ⟩ : ∃ Q, S vt = Q := ⟨_, rfl⟩
      rw [hQ] at HPa
      rw [hP] at HYes
      clear htw1 htw2 hwl hw0
      go_wp2_with fail
      refine (HS2.out _).mono ?_
      rintro e w3 ⟨v3, N3, rfl, hown3, hb3⟩
      have hN3 : 2 = N3 := by have := hown3.1; rw [strs_length] at this; simp at this; omega
      subst hN3
      obtain ⟨g3, cap3, hv3⟩ := Joins.ownsRow_form hown3 (by decide)
      subst hv3
      have hg3 := (hown3.lt g3 rfl).2
      have d0 : w3.cell? ⟨g3, 0, none⟩ = some (.string P) := by rw [World.ownsRow.cellAt hown3 0 (by decide), ← hP]; rfl
      have d1 : w3.cell? ⟨g3, 1, none⟩ = some (.string Q) := by rw [World.ownsRow.cellAt hown3 1 (by decide), ← hQ]; rfl
      have hb4 := below_then hbw hb3
      have hb5 := below_then hb hb3
      have HO3 := Lib.hid (owns_below HO.out hb3)
      clear hown3 hP hQ c0
      go_wp2_with fail
      refine (HPa.out _).mono ?_
      rintro e w4 ⟨x, y, z, p, er, rfl, hpi, hb6⟩
      have HPI := Lib.hid hpi
      have hb7 := below_then hb4 hb6
      have hb8 := below_then hb5 hb6
      have HO4 := Lib.hid (owns_below HO3.out hb6)
      have d0 := cell_on d0 hb6
      clear hpi d1
      by_cases he0 : er = 0
      rotate_left
      · have qe : (er != 0) = true := by simpa using he0
        have HN : Hid (LockIs l [] 370) := by
          refine HNo.out ?_
          rcases HPI.out with ⟨h, _⟩ | ⟨_, _, _, _, _, h⟩
          · exact absurd h he0
          · exact h
        clear he0
        have hb9 := hb7.alloc hb7.size (.cells #[.int .i64 x, .int .i64 y, .int .i64 z, .string (S p)] 45)
        go_wp2_with fail
        go_ret2
        exact lockPost_no HN.out hb9
      subst he0
      have HS3 : Hid (PickTo (midL L) (k + 1 - 1) (ps ++ [⟨P, ⟨x, y, z, S p⟩⟩])) := by
        refine HYes.out _ ?_
        rcases HPI.out with ⟨_, h⟩ | ⟨h, _⟩
        · exact ⟨h.1, h.2⟩
        · cases h
      have hB3 := hb8.size
      have hdlt := cell_lt d0
      obtain ⟨i0', hi, hz0, hz1, hz2⟩ := HI.out
      have HO5 := Lib.hid ((HO4.out.alloc (.cells #[.int .i64 x, .int .i64 y, .int .i64 z, .string (S p)] 45)))
      have HO6 := Lib.hid (owns_below HO5.out ((Below.refl _ _).drew))
      have hal := hb8.alloc hB3 (.cells #[.int .i64 x, .int .i64 y, .int .i64 z, .string (S p)] 45)
      go_wp2_with fail
      go_region_law (refine step_append_ats rfl (.tmp 44) (.tmp 50) 22 rfl w2.heap.size 47 i0' (.agg #[.string ⟨#[]⟩, .int .i64 0, .int .i64 0, .int .i64 0, .string ⟨#[]⟩]) 5 56 Tryz.underlying22 hi hz0 hz1 hz2 rfl (by decide) _ _ _ (by simp [Act.eval]) (HO6.out.alloc _) ⟨_, 0, none⟩ 1 1 [.string P, .int .i64 x, .int .i64 y, .int .i64 z, .string (S p)] (by first | (simp [Act.eval]; done) | (simp [Act.eval]; rfl)) rfl (cells5_atL _ _ (by simp) _ _ _ _ _ _) (by intro u hu; simp at hu; rcases hu with rfl | rfl | rfl | rfl | rfl <;> rfl) (by unfold maxLen; omega) (by omega) (by simp; omega) ?_; intro v' w6 hown6 hg6 hbk6)
      all_goals
        have hbF := below_grown (hal.drew.alloc (by simp; omega) _) (HO6.out.alloc _) hg6 (by simp; omega)
        obtain ⟨g6, cap6, hv6⟩ := Joins.ownsRow_form hown6 (by omega)
        subst hv6
        have HO7 := Lib.hid hown6
        clear hown6 hg6 hbk6
        go_wp2
        go_roundw
        case rel =>
          refine ⟨k + 1, ps ++ [⟨P, ⟨x, y, z, S p⟩⟩], by omega, by omega, by go_num, HS3.out, by rw [List.length_append, HPn.out]; simp; omega, ?_, ⟨some ⟨g6, 0, none⟩, cap6, by rw [List.length_append]; rfl⟩, hbF⟩
          have h := HO7.out
          rw [List.flatMap_append, List.length_append]
          exact h
        case measure => simp [intOf]; omega
    · have q3 : decide ((k : Int) < (L.length : Int) - 2) = false := decide_eq_false (by omega)
      have hkl : k - 1 = (midL L).length := by rw [mid_len]; omega
      have hpt2 : PickTo (midL (sepAt 10 l)) (midL (sepAt 10 l)).length ps := by rw [HLe.out, ← hkl]; exact HPT.out
      have HPT2 := Lib.hid hpt2
      obtain ⟨mb, hmb⟩ : ∃ mb, mayB ps = mb := ⟨_, rfl⟩
      have hps := Piks.of_owns HO.out
      have HFr := Lib.hid (FreshV.of_owns HO.out)
      have hsz : ∀ x ∈ ps, x.v.p.size ≤ 300 := fun x hx => by
        have := (verOk_bounds (hpt2.2 x hx).1).2.2.2.2.2.2.1
        rw [Lib.size_eq]; omega
      have HShow := rlshow_any _ ps wr hps hsz
      have HMb := Lib.hid hmb
      have HPs := Lib.hid hps
      clear hlt hpt2 hps hkl hsz h3
      cases mb
      · rw [show lockShow ps = ([], 370) by unfold lockShow; rw [hmb]; rfl] at HShow
        have HShow := Lib.hid HShow
        have HN := Lib.hid (ref_end HPT2.out (.inl HMb.out))
        clear hmb
        go_wp2_with fail
        refine HShow.out.mono ?_
        rintro e w5 ⟨rfl, hb6⟩
        go_wp2_with fail
        go_ret2
        exact lockPost_no HN.out (below_then hbw hb6)
      rw [show lockShow ps = (lockL ps, 0) by unfold lockShow; rw [hmb]; rfl] at HShow
      obtain ⟨T, hT⟩ : ∃ T, S (lockL ps) = T := ⟨_, rfl⟩
      simp only [hT] at HShow
      have HShow := Lib.hid HShow
      have hTl : T.toList = lockL ps := by rw [← hT, S_toList]
      have hsl : s.toList = l := by rw [Lib.toList_data]; exact Hl.out
      clear hmb hT
      by_cases heq : lockL ps = l
      · have q5 : (T.toList != s.toList) = false := by rw [hTl, hsl, heq]; simp
        have q6 : (T.toList == s.toList) = true := by rw [hTl, hsl, heq]; simp
        have HN := Lib.hid (lockIs_yes HMb.out heq)
        clear heq hTl hsl
        go_wp2_with fail
        refine HShow.out.mono ?_
        rintro e w5 ⟨rfl, hb6⟩
        go_wp2_with fail
        go_ret2
        exact ⟨_, ps, 0, rfl, HPs.out.below hb6 (Nat.le_refl _), HN.out, HFr.out.mono hb2.size, below_then hbw hb6⟩
      · have q5 : (T.toList != s.toList) = true := by rw [hTl, hsl]; simpa using heq
        have q6 : (T.toList == s.toList) = false := by rw [hTl, hsl]; simpa using heq
        have HN := Lib.hid (ref_end HPT2.out (.inr heq))
        clear heq hTl hsl
        go_wp2_with fail
        refine HShow.out.mono ?_
        rintro e w5 ⟨rfl, hb6⟩
        go_wp2_with fail
        go_ret2
        exact lockPost_no HN.out (below_then hbw hb6)
end Go.Proofs.YtboajinaiceekaaGreatDoor
