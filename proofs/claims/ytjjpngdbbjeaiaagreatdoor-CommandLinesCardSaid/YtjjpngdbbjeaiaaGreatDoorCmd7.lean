/- The program's commands: Asks: a walk. -/
import Derived.Test.YtjjpngdbbjeaiaaGreatDoorCmdLib
import Derived.Test.YtjjpngdbbjeaiaaGreatDoorCmdRows
import Derived.Test.YtjjpngdbbjeaiaaGreatDoorLex1
import Derived.Test.YtjjpngdbbjeaiaaGreatDoorRanProg5
import Derived.Test.YtjjpngdbbjeaiaaGreatDoorSemProg3
import Derived.Deep.LoopGhost
import Derived.WalkMore
namespace Go.Proofs.YtjjpngdbbjeaiaaGreatDoor
open Go.RowKit
theorem info_need : (Tryz.prog.info? 100).map (fun i => (i.zero, i.size, i.bytes)) = some (some (.agg #[.string ⟨#[]⟩, .slice none 0 0]), 2, 40) := by kernel_rfl
theorem info_pick : (Tryz.prog.info? 93).map (fun i => (i.zero, i.size, i.bytes)) = some (some (.agg #[.string ⟨#[]⟩, .int .i64 0, .int .i64 0, .int .i64 0, .string ⟨#[]⟩]), 5, 56) := by kernel_rfl
theorem cells2_at (w : World) (B : Nat) (hB : B = w.heap.size) (a b : Value) (t : TypeId) : ∀ j u, [a, b][j]? = some u → (w.alloc (.cells #[a, b] t)).cell? ((⟨B, 0, none⟩ : Addr).add j) = some u := by
  subst hB
  intro j u hj
  match j, hj with
  | 0, hj => simp at hj; subst hj; simp [Addr.add]
  | 1, hj => simp at hj; subst hj; simp [Addr.add]
/-- what is there ahead of a line -/
def AkRel (ls : List (List UInt8)) (w2 : World) (g : Nat) (vn vp i : Value) (wr : World) : Prop :=
  ∃ (k : Nat) (ns : List (Want × Value)) (ps : List Pck), k ≤ ls.length ∧ g = ls.length - k ∧ i = .int .i64 (k : Int) ∧ linesL (ls.take k) = some (ns.map Prod.fst, ps) ∧ ns.length ≤ k ∧ ps.length ≤ k ∧
    Got 100 93 w2.heap.size wr vn vp ns ps ∧ Below w2.heap.size w2 wr
set_option maxRecDepth 100000 in
set_option maxHeartbeats 4000000 in
theorem asks_any (s : ByteArray) (w : World) (hE : Env w) (hs : s.size ≤ 90000) :
    Calls Tryz.prog 31 #[.string s] w (AsksAs s.data.toList w) := by
  have HE := Lib.hid hE
  clear hE
  by_cases h0 : s.size = 0
  · have hnil : s.data.toList = [] := by rw [Lib.size_eq] at h0; exact List.eq_nil_of_length_eq_zero h0
    have hem : s.toList.isEmpty = true := by rw [Lib.toList_data, hnil]; rfl
    have HN := Lib.hid hnil
    clear h0 hnil
    go_enter Tryz.func31, Tryz.ntmps31
    go_wp2
    go_step3
    go_wp2_with fail
    (try rw [Exit.noGoto_ret])
    go_ret3
    exact asks_none HN.out (Below.refl _ _)
  have hem : s.toList.isEmpty = false := by
    rw [Lib.toList_data]
    cases h : s.data.toList with
    | nil => rw [Lib.size_eq, h] at h0; exact absurd rfl h0
    | cons a l => rfl
  have hne : s.data.toList ≠ [] := by intro h; rw [Lib.size_eq, h] at h0; exact h0 rfl
  obtain ⟨Q, hQ⟩ : ∃ Q, S (if s.data.toList.getLast? = some 10 then s.data.toList.dropLast else s.data.toList) = Q := ⟨_, rfl⟩
  have hQd : Q.data.toList = (if s.data.toList.getLast? = some 10 then s.data.toList.dropLast else s.data.toList) := by rw [← hQ]; rfl
  have hQs : Q.size ≤ 90000 := by
    rw [Lib.size_eq, hQd]
    rw [Lib.size_eq] at hs
    split
    · rw [List.length_dropLast]; omega
    · exact hs
  obtain ⟨ls, hls⟩ : ∃ ls, sepAt 10 Q.data.toList = ls := ⟨_, rfl⟩
  have hll : linesOf s.data.toList = ls := by
    rw [← hls, hQd]
    unfold linesOf
    rw [show s.data.toList.isEmpty = false by rw [← Lib.toList_data]; exact hem]; rfl
  have HLL : Hid (asksL s.data.toList = linesL ls) := by show _ = _; unfold asksL; rw [hll]
  have hl1 : 0 < ls.length := by rw [← hls]; exact List.length_pos_iff.2 (sepAt_ne _ _)
  have hlm : ls.length ≤ 90001 := by
    rw [← hls, sepAt_count]
    have := List.count_le_length (a := (10 : UInt8)) (l := Q.data.toList)
    rw [← Lib.size_eq] at this; omega
  have HLs : Hid (∀ p ∈ ls, p.length ≤ 90000) := by
    intro p hp
    rw [← hls] at hp
    have := sepAt_size 10 _ p hp
    rw [← Lib.size_eq] at this; omega
  have HT := trimSuffix_any 10 s
  rw [hQ] at HT
  have HT := Lib.hid HT
  have HSp := splitC_any 10 Q
  rw [hls] at HSp
  have HSp := Lib.hid HSp
  have HIN := Lib.hid (info_parts info_need)
  have HIP := Lib.hid (info_parts info_pick)
  clear hQ hQd hls hll hne h0
  go_enter Tryz.func31, Tryz.ntmps31
  go_wp2
  go_step3
  go_wp2
  go_step3
  go_wp2_with fail
  refine (HT.out _ (by omega)).mono ?_
  rintro e w1 ⟨rfl, rfl⟩
  go_wp2_with fail
  refine (HSp.out _ HE.out (by omega)).mono ?_
  rintro e w2 ⟨v, rfl, hv, hb2⟩
  obtain ⟨bx, ox, capx, rfl, hbx, hcx⟩ := hv.full hl1
  have HCX := Lib.hid hcx
  have HE2 := Lib.hid (HE.out.below hb2)
  clear hcx hv
  go_wp2_with fail
  go_loopg [5, 6, 8, 9, 10, 11, 12, 13, 14, 15, 16, 17, 24] ls.length (fun g vn vp _ _ _ _ _ _ _ _ _ _ i wr => AkRel ls w2 g vn vp i wr)
  case atStart => exact ⟨0, [], [], Nat.zero_le _, rfl, rfl, rfl, Nat.le_refl _, Nat.le_refl _, Got.start _ _ _ _, Below.refl _ _⟩
  case round =>
    obtain ⟨k, ns, ps, hk, rfl, rfl, hlin, hns, hps, hgot, hb⟩ := hrel
    have HLin := Lib.hid hlin
    have HG := Lib.hid hgot
    have hbW := below_then hb2 hb
    obtain ⟨na, ncap, rfl⟩ := hgot.fn
    obtain ⟨pa, pcap, rfl⟩ := hgot.fp
    clear hlin hgot
    by_cases hlt : k < ls.length
    case neg =>
      have q3 : decide (k < ls.length) = false := decide_eq_false hlt
      have HF : Hid (asksL s.data.toList = some (ns.map Prod.fst, ps)) := by
        show _ = _
        rw [HLL.out, ← HLin.out, List.take_of_length_le (by omega)]
      clear hlt
      go_wp2_with fail
      (try rw [Exit.noGoto_ret])
      go_ret3
      exact asks_ok HF.out HG.out hbW
    have i0 : (0 : Int) ≤ (k : Int) := by omega
    have i1 : (k : Int) < (ls.length : Int) := by omega
    have c0 := (hb.cell (p := ⟨bx, ox + k, none⟩) hbx).trans (HCX.out k hlt)
    obtain ⟨t, ht⟩ : ∃ t, ls[k] = t := ⟨_, rfl⟩
    have HLk : Hid (lineL t = none → asksL s.data.toList = none) := by
      intro h
      rw [HLL.out]
      exact linesL_bad hlt (by rw [ht]; exact h)
    have HLn : Hid (∀ x : Want, ∀ rv : Value, lineL t = some ([x], []) → linesL (ls.take (k + 1)) = some ((ns ++ [(x, rv)]).map Prod.fst, ps)) := fun x rv h => lines_need hlt HLin.out (by rw [ht]; exact h)
    have HLp : Hid (∀ x : Pck, lineL t = some ([], [x]) → linesL (ls.take (k + 1)) = some (ns.map Prod.fst, ps ++ [x])) := fun x h => lines_pick hlt HLin.out (by rw [ht]; exact h)
    have htz : t.length ≤ 90000 := by rw [← ht]; exact HLs.out _ (List.getElem_mem hlt)
    obtain ⟨A, hA⟩ : ∃ A, S t = A := ⟨_, rfl⟩
    have hAz : A.size ≤ 90000 := by rw [← hA, S_size]; exact htz
    rw [ht, hA] at c0
    obtain ⟨H, hH⟩ : ∃ H, S (headAt 32 t) = H := ⟨_, rfl⟩
    obtain ⟨X, hX⟩ : ∃ X, S (tailAt 32 t) = X := ⟨_, rfl⟩
    have HHd : Hid (H.data.toList = headAt 32 t) := by show _ = _; rw [← hH]; rfl
    have HXd : Hid (X.data.toList = tailAt 32 t) := by show _ = _; rw [← hX]; rfl
    have hXz : X.size ≤ 90000 := by rw [← hX, S_size]; have := tailAt_len 32 t; omega
    have HCt := cutC_any 32 A
    rw [← hA, S_data, hH, hX, hA] at HCt
    have HCt := Lib.hid HCt
    have HHs := Lib.hid hH
    obtain ⟨M, hM⟩ : ∃ M, hasAt 32 t = M := ⟨_, rfl⟩
    rw [hM] at HCt
    clear ht hA hH hX hM htz hlt
    by_cases heq : (headAt 32 t).head? = some 61
    · obtain ⟨P, hP⟩ : ∃ P, S ((headAt 32 t).drop 1) = P := ⟨_, rfl⟩
      have HPd : Hid (P.data.toList = (headAt 32 t).drop 1) := by show _ = _; rw [← hP]; rfl
      have HCp := cutPrefix_any 61 H
      rw [HHd.out, if_pos heq, decide_eq_true heq, hP] at HCp
      have HCp := Lib.hid HCp
      have HPs := Lib.hid hP
      have HEq := Lib.hid heq
      obtain ⟨nk, hnk⟩ : ∃ b, nameOk P.data.toList = b := ⟨_, rfl⟩
      have HNm := Lib.hid (fun w => lname_as P nk hnk w)
      have HNk : Hid (nameOk ((headAt 32 t).drop 1) = nk) := by show _ = _; rw [← HPd.out]; exact hnk
      clear hP heq hnk
      go_wp2_with fail
      refine (HCt.out _ (HE.out.below hbW) (by omega)).mono ?_
      rintro e w3 ⟨rfl, hb3⟩
      go_wp2_with fail
      refine (HCp.out _).mono ?_
      rintro e w3' ⟨rfl, rfl⟩
      have hbX := below_then hb hb3
      have HG3 := Lib.hid (HG.out.below hb3)
      go_wp2_with fail
      refine (parse_any X _ (HE2.out.below hbX) (by omega)).mono ?_
      rintro e w4 ⟨va, vb, vc, vq, er, rfl, hpi, hb4⟩
      have hbY := below_then hbX hb4
      have HG4 := Lib.hid (HG3.out.below hb4)
      have hz4 := hbY.size
      rw [HXd.out] at hpi
      rcases vparseF_of hpi with ⟨he, hvp⟩ | ⟨he, ha0, hb0, hc0, hq0, hvp⟩
      · subst he
        have HVp := Lib.hid hvp
        clear hpi hvp
        cases nk with
        | false =>
          have HF : Hid (asksL s.data.toList = none) := HLk.out (line_no2 HEq.out (.inr HNk.out))
          go_wp2_with fail
          refine (HNm.out _).mono ?_
          rintro e w5 ⟨rfl, hw5⟩
          subst hw5
          go_wp2_with fail
          (try rw [Exit.noGoto_ret])
          go_ret3
          exact asks_err HF.out ((below_then hb2 hbY).alloc (below_then hb2 hbY).size _)
        | true =>
          have HLt := Lib.hid (HLp.out ⟨(headAt 32 t).drop 1, ⟨va, vb, vc, S vq⟩⟩ (line_pick HEq.out HVp.out HNk.out))
          obtain ⟨ip, hip, hpz0, hpz1, hpz2⟩ := HIP.out
          go_wp2_with fail
          refine (HNm.out _).mono ?_
          rintro e w5 ⟨rfl, hw5⟩
          subst hw5
          go_wp2_with (at_builtin; go_must (refine wpList_append_own_at _ rfl _ _ 62 rfl w2.heap.size 93 ip (.agg #[.string ⟨#[]⟩, .int .i64 0, .int .i64 0, .int .i64 0, .string ⟨#[]⟩]) 5 56 Tryz.underlying62 hip hpz0 hpz1 hpz2 rfl (by decide) _ _ _ rfl ((HG4.out.alloc _).alloc _).picks ⟨_, 0, none⟩ 1 1 [.string P, .int .i64 va, .int .i64 vb, .int .i64 vc, .string (S vq)] rfl rfl ?c1 ?c2 ?c3 ?c4 ?c5 ?_))
          case c1 => exact cells5_at _ _ (by simp) _ _ _ _ _ _
          case c2 => intro u hu; simp at hu; rcases hu with rfl | rfl | rfl | rfl | rfl <;> rfl
          case c3 => unfold maxLen; omega
          case c4 => omega
          case c5 => simp; omega
          intro v' w6 hown6 hg6 _ hbk6
          have hb6 := below_grown ((hbY.alloc hz4 _).alloc (by simp; omega) _) ((HG4.out.alloc _).alloc _).picks hg6 (by simp; omega)
          have HG6 := Lib.hid (((HG4.out.alloc _).alloc _).pick (x := ⟨(headAt 32 t).drop 1, ⟨va, vb, vc, S vq⟩⟩) (by show World.ownsRow _ _ _ _ _ _ (_ ++ [.string (S _), _, _, _, _]); rw [HPs.out]; exact hown6) rfl hg6 (by simpa using hbk6))
          clear hown6 hg6 hbk6
          go_wp2
          go_roundg (ls.length - (k + 1))
          case measure => omega
          case rel => exact ⟨k + 1, ns, ps ++ [_], by omega, rfl, by go_num, HLt.out, by omega, by simp; omega, HG6.out, hb6⟩
      · subst he ha0 hb0 hc0 hq0
        have HF : Hid (asksL s.data.toList = none) := HLk.out (line_no2 HEq.out (.inl hvp))
        clear hpi hvp
        go_wp2_with fail
        (try rw [Exit.noGoto_ret])
        go_ret3
        exact asks_err HF.out ((below_then hb2 hbY).alloc (below_then hb2 hbY).size _)
    · have HCp := cutPrefix_any 61 H
      rw [HHd.out, if_neg heq, decide_eq_false heq, HHs.out] at HCp
      have HCp := Lib.hid HCp
      have HEq := Lib.hid heq
      obtain ⟨nk, hnk⟩ : ∃ b, nameOk H.data.toList = b := ⟨_, rfl⟩
      have HNm := Lib.hid (fun w => lname_as H nk hnk w)
      have HNk : Hid (nameOk (headAt 32 t) = nk) := by show _ = _; rw [← HHd.out]; exact hnk
      clear heq hnk
      go_wp2_with fail
      refine (HCt.out _ (HE.out.below hbW) (by omega)).mono ?_
      rintro e w3 ⟨rfl, hb3⟩
      go_wp2_with fail
      refine (HCp.out _).mono ?_
      rintro e w3' ⟨rfl, rfl⟩
      have hbX := below_then hb hb3
      have HG3 := Lib.hid (HG.out.below hb3)
      go_wp2_with fail
      refine (rparse_any X _ (HE2.out.below hbX) (by omega)).mono ?_
      rintro e w4 ⟨rv, bs, er, rfl, hrv, ⟨ra, rcap, rfl⟩, hpi, hb4, hf4⟩
      have hbY := below_then hbX hb4
      have HG4 := Lib.hid (HG3.out.below hb4)
      have hz4 := hbY.size
      rw [HXd.out] at hpi
      have HA1 := Lib.hid (fresh_apart hf4 HG3.out.needs)
      have HA2 := Lib.hid (fresh_apart hf4 HG3.out.picks)
      have HRv := Lib.hid hrv
      clear hrv hf4
      rcases rparseF_of hpi with ⟨he, hvp⟩ | ⟨he, hbs0, hvp⟩
      · subst he
        have HVp := Lib.hid hvp
        clear hpi hvp
        cases nk with
        | false =>
          have HF : Hid (asksL s.data.toList = none) := HLk.out (line_no1 HEq.out (.inr HNk.out))
          go_wp2_with fail
          refine (HNm.out _).mono ?_
          rintro e w5 ⟨rfl, hw5⟩
          subst hw5
          go_wp2_with fail
          (try rw [Exit.noGoto_ret])
          go_ret3
          exact asks_err HF.out (below_then hb2 hbY)
        | true =>
          have HLt := Lib.hid (HLn.out ⟨headAt 32 t, bs⟩ (.slice ra bs.length rcap) (line_need HEq.out HVp.out HNk.out))
          obtain ⟨i1', hin, hnz0, hnz1, hnz2⟩ := HIN.out
          go_wp2_with fail
          refine (HNm.out _).mono ?_
          rintro e w5 ⟨rfl, hw5⟩
          subst hw5
          go_wp2_with (at_builtin; go_must (refine wpList_append_own_at _ rfl _ _ 61 rfl w2.heap.size 100 i1' (.agg #[.string ⟨#[]⟩, .slice none 0 0]) 2 40 Tryz.underlying61 hin hnz0 hnz1 hnz2 rfl (by decide) _ _ _ rfl (HG4.out.alloc _).needs ⟨_, 0, none⟩ 1 1 [.string H, .slice ra bs.length rcap] rfl rfl ?d1 ?d2 ?d3 ?d4 ?d5 ?_))
          case d1 => exact cells2_at _ _ (by simp) _ _ _
          case d2 => intro u hu; simp at hu; rcases hu with rfl | rfl <;> rfl
          case d3 => unfold maxLen; omega
          case d4 => omega
          case d5 => simp; omega
          intro v' w6 hown6 hg6 _ hbk6
          have hb6 := below_grown (hbY.alloc hz4 _) (HG4.out.alloc _).needs hg6 (by simp; omega)
          have HG6 := Lib.hid ((HG4.out.alloc _).need (x := ⟨headAt 32 t, bs⟩) (rv := .slice ra bs.length rcap) ⟨HRv.out.below ((Below.refl _ _).alloc (Nat.le_refl _) _) (Nat.le_refl _), ⟨_, _, rfl⟩⟩ (fun _ => ⟨HA1.out, HA2.out⟩) (by show World.ownsRow _ _ _ _ _ _ (_ ++ [.string (S _), _]); rw [HHs.out]; exact hown6) rfl hg6 (by simpa using hbk6))
          clear hown6 hg6 hbk6
          go_wp2
          go_roundg (ls.length - (k + 1))
          case measure => omega
          case rel => exact ⟨k + 1, ns ++ [_], ps, by omega, rfl, by go_num, HLt.out, by simp; omega, by omega, HG6.out, hb6⟩
      · subst he hbs0
        have HF : Hid (asksL s.data.toList = none) := HLk.out (line_no1 HEq.out (.inl hvp))
        clear hpi hvp
        go_wp2_with fail
        (try rw [Exit.noGoto_ret])
        go_ret3
        exact asks_err HF.out (below_then hb2 hbY)
end Go.Proofs.YtjjpngdbbjeaiaaGreatDoor
