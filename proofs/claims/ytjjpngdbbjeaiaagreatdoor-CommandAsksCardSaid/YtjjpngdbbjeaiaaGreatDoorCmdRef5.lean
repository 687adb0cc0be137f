/- The reference's commands: Asks: a walk. -/
import Derived.Test.YtjjpngdbbjeaiaaGreatDoorCmdRef3
import Derived.Test.YtjjpngdbbjeaiaaGreatDoorCmd7
import Derived.Test.YtjjpngdbbjeaiaaGreatDoorRanRef6
import Derived.Test.YtjjpngdbbjeaiaaGreatDoorLex2
import Derived.Deep.RegionLaw
namespace Go
theorem line_nosp {l : List UInt8} (h : hasAt 32 l = false) : lineL l = none := by
  have ht := tailAt_none h
  unfold lineL
  rw [ht, vparseF_nil, rparseF_nil]
  split <;> rfl
/-- append to a row of the call's own, as one step of a region that draws -/
theorem step_append_at {P : Program} {ops : Array Oper} {o : Oper} {a : Act} {w : World} {K : Act → World → Prop} {Q : Exit → Act → World → Prop} {E : Prop}
    (hg : o.guard = none) (s x : Operand) (t : TypeId) (hop : o.op = Op.call { callee := Callee.builtin Builtin.append, args := #[s, x], argTypes := #[t, t] })
    (base : Nat) (e : TypeId) (i : TypeInfo) (z : Value) (size bytes : Nat) (ht : P.underlying t = some (.slice e)) (hi : P.info? e = some i) (hz : i.zero = some z)
    (hsize : i.size = size) (hby : i.bytes = bytes) (hzs : z.cells.size = size) (hsz : 0 < size)
    (v : Value) (n : Nat) (xs : List Value) (hs : a.eval s = v) (hown : w.ownsRow base e size v n xs)
    (ad : Addr) (m c : Nat) (news : List Value) (hx : a.eval x = .slice (some ad) m c) (hl : news.length = m * size) (hnews : ∀ j u, news[j]? = some u → w.cell? (ad.add j) = some u) (h1 : ∀ u ∈ news, u.oneCell' = true)
    (h63 : n + m ≤ maxLen) (hbytes : (n + m) * bytes ≤ 140737488355328) (hbase : base ≤ w.heap.size)
    (hK : ∀ v' w', w'.ownsRow base e size v' (n + m) (xs ++ news) → w.grownBy w' v.ownBlock → (v'.ownBlock = v.ownBlock ∨ v'.ownBlock = some w.heap.size) → K (a.put o.dst v') w') :
    if Region.wanted o (yielded ops a.tmps) = true then Oper.wp P o a w K Q else E := by
  have hw : Region.wanted o (yielded ops a.tmps) = true := by simp [Region.wanted, hg]
  rw [if_pos hw]
  obtain ⟨v', w', hr, h2, h3, _, h5⟩ := run_append_own_at (P := P) (w := w) base t o.type e i z size bytes ht hi hz hsize hby hzs hsz v n xs hown ad m c news hl hnews h1 h63 hbytes hbase
  unfold Oper.wp execOp
  simp only [hop, resolve, invoke, builtin, Sem.run_bind, Sem.run_pure, Result.andThen_ok, List.map_toArray, List.map_cons, List.map_nil, hs, hx, hr]
  exact hK v' w' h2 h3 h5
end Go
namespace Go.Proofs.YtjjpngdbbjeaiaaGreatDoor
open Go.RowKit
def RAkRel (ls : List (List UInt8)) (w2 : World) (g : Nat) (vn vp i : Value) (wr : World) : Prop :=
  ∃ (k : Nat) (ns : List (Want × Value)) (ps : List Pck), k ≤ ls.length ∧ g = ls.length - k ∧ i = .int .i64 (k : Int) ∧ linesL (ls.take k) = some (ns.map Prod.fst, ps) ∧ ns.length ≤ k ∧ ps.length ≤ k ∧
    Got 100 93 w2.heap.size wr vn vp ns ps ∧ Below w2.heap.size w2 wr
set_option maxRecDepth 100000 in
set_option maxHeartbeats 4000000 in
theorem rasks_any (s : ByteArray) (w : World) (hs : s.size ≤ 90000) :
    Calls Tryz.prog 32 #[.string s] w (AsksAs s.data.toList w) := by
  have HSp := Lib.hid (refSplit_any 10 s)
  have HIN := Lib.hid (info_parts info_need)
  have HIP := Lib.hid (info_parts info_pick)
  have HRf := Lib.hid (linesOf_ref s.data.toList)
  obtain ⟨qs, hqs⟩ : ∃ qs, sepAt 10 s.data.toList = qs := ⟨_, rfl⟩
  have hq0 : 0 < qs.length := by rw [← hqs]; exact List.length_pos_iff.2 (sepAt_ne _ _)
  have hqm : qs.length ≤ 90001 := by
    rw [← hqs, sepAt_count]
    have := List.count_le_length (a := (10 : UInt8)) (l := s.data.toList)
    rw [← Lib.size_eq] at this; omega
  have HQs := Lib.hid hqs
  clear hqs
  go_enter Tryz.func32, Tryz.ntmps32
  go_wp2_with fail
  refine (HSp.out _ (by omega)).mono ?_
  rintro e w2 ⟨v, N, rfl, hown, hb2⟩
  rw [HQs.out] at hown
  have hN : qs.length = N := by have := hown.1; rw [strs_length] at this; omega
  subst hN
  obtain ⟨g, cap, hv2⟩ := Joins.ownsRow_form hown hq0
  subst hv2
  have hcap := owns_cap hown hq0
  have hg2 := (hown.lt g rfl).2
  have HCl : Hid (∀ j (h : j < qs.length), w2.cell? ⟨g, j, none⟩ = some (.string (S qs[j]))) := by
    intro j hj
    rw [World.ownsRow.cellAt hown j (by omega), strs_get qs j hj]
  obtain ⟨lst, hlst⟩ : ∃ t, qs[qs.length - 1]'(by omega) = t := ⟨_, rfl⟩
  have HLg : Hid (qs.getLast? = some lst) := by show _ = _; rw [List.getLast?_eq_getElem?, List.getElem?_eq_getElem (by omega), hlst]
  have d0 := HCl.out (qs.length - 1) (by omega)
  rw [hlst] at d0
  obtain ⟨Lb, hLb⟩ : ∃ b, S lst = b := ⟨_, rfl⟩
  rw [hLb] at d0
  have HLb : Hid (Lb.data.toList = lst) := by show _ = _; rw [← hLb]; rfl
  have i9 : ((qs.length : Int) - 1).toNat = qs.length - 1 := by omega
  have i8 : (0 : Int) ≤ (qs.length : Int) - 1 := by omega
  have i7 : (qs.length : Int) - 1 < (qs.length : Int) := by omega
  clear hown hlst hLb
  by_cases hem : Lb.data.toList = []
  · have hem2 : Lb.toList.isEmpty = true := by rw [Lib.toList_data, hem]; rfl
    obtain ⟨ls, hls⟩ : ∃ ls, qs.dropLast = ls := ⟨_, rfl⟩
    have hll : qs.length - 1 = ls.length := by rw [← hls, List.length_dropLast]
    rw [hll] at d0 i9
    have HCX : Hid (∀ j (h : j < ls.length), w2.cell? ⟨g, j, none⟩ = some (.string (S ls[j]))) := by
      intro j hj
      rw [HCl.out j (by omega)]
      have : ls[j] = qs[j]'(by omega) := by
        have h : ∀ (a : List (List UInt8)) (h : j < a.length), a = qs.dropLast → a[j] = qs[j]'(by omega) := fun a h e => by subst e; rw [List.getElem_dropLast]
        exact h _ _ hls.symm
      rw [this]
    have HLL : Hid (asksL s.data.toList = linesL ls) := by
      show _ = _
      unfold asksL
      rw [HRf.out, HQs.out, HLg.out, if_pos (by rw [← HLb.out, hem]), hls]
    have HLs : Hid (∀ p ∈ ls, p.length ≤ 90000) := by
      intro p hp
      rw [← hls] at hp
      have hp2 : p ∈ qs := by rw [List.dropLast_eq_take] at hp; exact List.mem_of_mem_take hp
      rw [← HQs.out] at hp2
      have := sepAt_size 10 _ p hp2
      rw [← Lib.size_eq] at this; omega
    have hlm : ls.length ≤ 90001 := by omega
    have i5 : (qs.length : Int) - 1 = (ls.length : Int) := by omega
    clear hls hem
    go_wp2_with fail
    go_loopg [5, 6, 8, 9, 10, 11, 12, 13, 14, 15] ls.length (fun g vn vp i _ _ _ _ _ _ _ wr => RAkRel ls w2 g vn vp i wr)
    case atStart => exact ⟨0, [], [], Nat.zero_le _, rfl, rfl, rfl, Nat.le_refl _, Nat.le_refl _, Got.start _ _ _ _, Below.refl _ _⟩
    case round =>
      obtain ⟨k, ns, ps, hk, rfl, rfl, hlin, hns, hps, hgot, hb⟩ := hrel
      have HLin := Lib.hid hlin
      have HG := Lib.hid hgot
      have hbW := below_then hb2 hb
      obtain ⟨na, ncap, rfl⟩ := hgot.fn
      obtain ⟨pa, pcap, rfl⟩ := hgot.fp
      clear hlin hgot
      by_cases hlt : k < ls.length
      case neg =>
        have q3 : decide (k < ls.length) = false := decide_eq_false hlt
        have HF : Hid (asksL s.data.toList = some (ns.map Prod.fst, ps)) := by
          show _ = _
          rw [HLL.out, ← HLin.out, List.take_of_length_le (by omega)]
        clear hlt
        go_wp2_with fail
        go_ret3
        exact asks_ok HF.out HG.out hbW
      have i0 : (0 : Int) ≤ (k : Int) := by omega
      have i1 : (k : Int) < (ls.length : Int) := by omega
      have c0 := (hb.cell (p := ⟨g, k, none⟩) hg2).trans (HCX.out k hlt)
      obtain ⟨t, ht⟩ : ∃ t, ls[k] = t := ⟨_, rfl⟩
      have HLk : Hid (lineL t = none → asksL s.data.toList = none) := by
        intro h
        rw [HLL.out]
        exact linesL_bad hlt (by rw [ht]; exact h)
      have HLn : Hid (∀ x : Want, ∀ rv : Value, lineL t = some ([x], []) → linesL (ls.take (k + 1)) = some ((ns ++ [(x, rv)]).map Prod.fst, ps)) := fun x rv h => lines_need hlt HLin.out (by rw [ht]; exact h)
      have HLp : Hid (∀ x : Pck, lineL t = some ([], [x]) → linesL (ls.take (k + 1)) = some (ns.map Prod.fst, ps ++ [x])) := fun x h => lines_pick hlt HLin.out (by rw [ht]; exact h)
      have htz : t.length ≤ 90000 := by rw [← ht]; exact HLs.out _ (List.getElem_mem hlt)
      obtain ⟨A, hA⟩ : ∃ A, S t = A := ⟨_, rfl⟩
      have hAz : A.size ≤ 90000 := by rw [← hA, S_size]; exact htz
      have HAd : Hid (A.data.toList = t) := by show _ = _; rw [← hA]; rfl
      rw [ht, hA] at c0
      clear ht hA htz hlt
      go_wp2_with fail
      go_loop [9] (fun n => NlRel 32 A n) (fun n => A.size - (intOf n).toNat)
      case atStart => exact ⟨0, Nat.zero_le _, rfl, fun x hx => by simp at hx⟩
      case round =>
        obtain ⟨j, hj, rfl, hno⟩ := hrel
        have HN := Lib.hid hno
        clear hno
        by_cases hgo : ∃ h : j < A.size, A[j] ≠ 32
        · obtain ⟨hlt, hne⟩ := hgo
          have j0 : (0 : Int) ≤ (j : Int) := by omega
          have j1 : (j : Int) < (A.size : Int) := by omega
          have HT := Lib.hid (take_no hlt HN.out hne)
          obtain ⟨y, hy⟩ : ∃ y, A[j] = y := ⟨_, rfl⟩
          rw [hy] at hne
          have q1 : ((y.toNat : Int) != 32) = true := by rw [bne_iff_ne]; intro h; exact hne (UInt8.toNat_inj.1 (by show y.toNat = 32; omega))
          clear hne
          go_wp2_with fail
          go_round
          case rel => exact ⟨j + 1, by omega, by go_num, HT.out⟩
          case measure => simp [intOf]; omega
        by_cases hjs : j < A.size
        case neg =>
          have q4 : decide (j < A.size) = false := decide_eq_false hjs
          have q5 : ((j : Int) == (A.size : Int)) = true := by simp; omega
          have q6 : decide (j = A.size) = true := decide_eq_true (by omega)
          have HF : Hid (asksL s.data.toList = none) := by
            refine HLk.out (line_nosp ?_)
            have h := HN.out
            have e : j = A.size := by omega
            rw [e] at h
            rw [← HAd.out]
            exact (head_end h).2.2
          clear hgo hjs
          go_wp2_with fail
          go_ret3
          exact asks_err HF.out hbW
        have hj32 : A[j] = 32 := by
          by_cases h : A[j] = 32
          · exact h
          · exact absurd ⟨hjs, h⟩ hgo
        have j0 : (0 : Int) ≤ (j : Int) := by omega
        have j1 : (j : Int) < (A.size : Int) := by omega
        have j2 : (j : Int) ≤ (A.size : Int) := by omega
        have j3 : (j : Int) + 1 ≤ (A.size : Int) := by omega
        have q5 : ((j : Int) == (A.size : Int)) = false := by simp; omega
        have q6 : decide (j = A.size) = false := decide_eq_false (by omega)
        have q7 : decide (j < A.size) = true := decide_eq_true hjs
        obtain ⟨hc1, hc2, hc3⟩ := head_here hjs HN.out hj32
        rw [HAd.out] at hc1 hc2
        obtain ⟨y, hy⟩ : ∃ y, A[j] = y := ⟨_, rfl⟩
        rw [hy] at hj32
        have q1 : ((y.toNat : Int) != 32) = false := by rw [hj32]; decide
        obtain ⟨H, hH⟩ : ∃ H, A.extract 0 j = H := ⟨_, rfl⟩
        obtain ⟨X, hX⟩ : ∃ X, A.extract (j + 1) A.size = X := ⟨_, rfl⟩
        have HHd : Hid (H.data.toList = headAt 32 t) := by show _ = _; rw [← hH, sub_take, HAd.out, hc1]
        have HXd : Hid (X.data.toList = tailAt 32 t) := by show _ = _; rw [← hX, sub_drop, HAd.out, hc2]
        have hHz : H.size = j := by rw [Lib.size_eq, ← hH, sub_take, List.length_take, ← Lib.size_eq]; omega
        have hXz : X.size ≤ 90000 := by rw [Lib.size_eq, ← hX, sub_drop, List.length_drop, ← Lib.size_eq]; omega
        have HHs : Hid (S (headAt 32 t) = H) := by show _ = _; rw [← HHd.out]; rfl
        have HHz := Lib.hid hHz
        clear hgo hj32 hc1 hc2 hc3
        by_cases heq : (headAt 32 t).head? = some 61
        · have hj0 : 0 < j := by
            rcases Nat.eq_zero_or_pos j with h | h
            · have : H.data.toList = [] := List.eq_nil_of_length_eq_zero (by rw [← Lib.size_eq, hHz, h])
              rw [HHd.out] at this
              rw [this] at heq; cases heq
            · exact h
          have hH0 : 0 < H.size := by omega
          have hbh := byte_head0 H hH0
          obtain ⟨z, hz⟩ : ∃ z, H[0] = z := ⟨_, rfl⟩
          rw [hz, HHd.out] at hbh
          have hz61 : z = 61 := by rw [hbh] at heq; simpa using heq
          have q8 : ((z.toNat : Int) == 61) = true := by rw [hz61]; decide
          have j4 : (0 : Int) < (j : Int) := by omega
          have j5 : (0 : Int) < (H.size : Int) := by omega
          have j6 : (1 : Int) ≤ (H.size : Int) := by omega
          obtain ⟨P, hP⟩ : ∃ P, H.extract 1 H.size = P := ⟨_, rfl⟩
          have HPd : Hid (P.data.toList = (headAt 32 t).drop 1) := by show _ = _; rw [← hP, sub_drop, HHd.out]
          have HPs : Hid (S ((headAt 32 t).drop 1) = P) := by show _ = _; rw [← HPd.out]; rfl
          have HEq := Lib.hid heq
          obtain ⟨nk, hnk⟩ : ∃ b, nameOk P.data.toList = b := ⟨_, rfl⟩
          have HNm := Lib.hid (fun w => rname_as P nk hnk w)
          have HNk : Hid (nameOk ((headAt 32 t).drop 1) = nk) := by show _ = _; rw [← HPd.out]; exact hnk
          clear heq hnk hbh hz61 hHz
          go_wp2_with fail
          refine (refParse_any X _ (by omega)).mono ?_
          rintro e w4 ⟨va, vb, vc, vq, er, rfl, hpi, hb4⟩
          have hbY := below_then hb hb4
          have HG4 := Lib.hid (HG.out.below hb4)
          have hz4 := hbY.size
          rw [HXd.out] at hpi
          rcases vparseF_of hpi with ⟨he, hvp⟩ | ⟨he, ha0, hb0, hc0, hq0', hvp⟩
          · subst he
            have HVp := Lib.hid hvp
            clear hpi hvp
            cases nk with
            | false =>
              have HF : Hid (asksL s.data.toList = none) := HLk.out (line_no2 HEq.out (.inr HNk.out))
              go_wp2_with fail
              refine (HNm.out _).mono ?_
              rintro e w5 ⟨rfl, hb5⟩
              have hbZ := below_then (hbY.alloc hz4 _) hb5
              go_wp2_with fail
              go_ret3
              exact asks_err HF.out (below_then hb2 hbZ)
            | true =>
              have HLt := Lib.hid (HLp.out ⟨(headAt 32 t).drop 1, ⟨va, vb, vc, S vq⟩⟩ (line_pick HEq.out HVp.out HNk.out))
              obtain ⟨ip, hip, hpz0, hpz1, hpz2⟩ := HIP.out
              go_wp2_with fail
              refine (HNm.out _).mono ?_
              rintro e w5 ⟨rfl, hb5⟩
              have hbZ := below_then (hbY.alloc hz4 _) hb5
              have hx5 := box_of hb5
              have e0 := box_cells hx5 0
              have e1 := box_cells hx5 1
              have e2 := box_cells hx5 2
              have e3 := box_cells hx5 3
              simp at e0 e1 e2 e3
              have HG5 := Lib.hid ((HG4.out.alloc _).below hb5)
              have hz5 := hbZ.size
              go_wp2_with fail
              have HG6 := Lib.hid (HG5.out.below ((Below.refl _ _).drew))
              go_region_law (refine step_append_at rfl (.tmp 94) (.tmp 99) 62 rfl w2.heap.size 93 ip (.agg #[.string ⟨#[]⟩, .int .i64 0, .int .i64 0, .int .i64 0, .string ⟨#[]⟩]) 5 56 Tryz.underlying62 hip hpz0 hpz1 hpz2 rfl (by decide) _ _ _ (by simp [Act.eval]) (HG6.out.alloc _).picks ⟨_, 0, none⟩ 1 1 [.string P, .int .i64 va, .int .i64 vb, .int .i64 vc, .string (S vq)] (by first | (simp [Act.eval]; done) | (simp [Act.eval]; rfl)) rfl (cells5_at _ _ (by simp) _ _ _ _ _ _) (by intro u hu; simp at hu; rcases hu with rfl | rfl | rfl | rfl | rfl <;> rfl) (by unfold maxLen; omega) (by omega) (by simp; omega) ?_; intro v' w6 hown6 hg6 hbk6)
              have hb6 := below_grown (hbZ.drew.alloc (by simp; omega) _) (HG6.out.alloc _).picks hg6 (by simp; omega)
              have HG7 := Lib.hid ((HG6.out.alloc _).pick (x := ⟨(headAt 32 t).drop 1, ⟨va, vb, vc, S vq⟩⟩) (by show World.ownsRow _ _ _ _ _ _ (_ ++ [.string (S _), _, _, _, _]); rw [HPs.out]; exact hown6) rfl hg6 (by simpa using hbk6))
              clear hown6 hg6 hbk6
              go_wp2
              go_roundg (ls.length - (k + 1))
              case measure => omega
              case rel => exact ⟨k + 1, ns, ps ++ [_], by omega, rfl, by go_num, HLt.out, by omega, by simp; omega, HG7.out, hb6⟩
          · subst he ha0 hb0 hc0 hq0'
            have HF : Hid (asksL s.data.toList = none) := HLk.out (line_no2 HEq.out (.inl hvp))
            clear hpi hvp
            go_wp2_with fail
            go_ret3
            exact asks_err HF.out ((below_then hb2 hbY).alloc (below_then hb2 hbY).size _)
        · have HEq := Lib.hid heq
          obtain ⟨nk, hnk⟩ : ∃ b, nameOk H.data.toList = b := ⟨_, rfl⟩
          have HNm := Lib.hid (fun w => rname_as H nk hnk w)
          have HNk : Hid (nameOk (headAt 32 t) = nk) := by show _ = _; rw [← HHd.out]; exact hnk
          have hways : (∃ h : 0 < H.size, H[0] ≠ 61) ∨ j = 0 := by
            rcases Nat.eq_zero_or_pos j with h | h
            · exact .inr h
            · left
              have h0 : 0 < H.size := by omega
              refine ⟨h0, fun h61 => ?_⟩
              have hbh := byte_head0 H h0
              rw [h61, HHd.out] at hbh
              exact heq (by rw [hbh]; rfl)
          clear heq hnk
          rcases hways with ⟨hH0, hz61⟩ | hj0
          · obtain ⟨z, hz⟩ : ∃ z, H[0] = z := ⟨_, rfl⟩
            rw [hz] at hz61
            have q8 : ((z.toNat : Int) == 61) = false := by rw [beq_eq_false_iff_ne]; intro h; exact hz61 (UInt8.toNat_inj.1 (by show z.toNat = 61; omega))
            have j4 : (0 : Int) < (j : Int) := by omega
            have j4' : decide ((0 : Int) < (j : Int)) = true := by simp; omega
            have j4'' : decide (0 < j) = true := decide_eq_true (by omega)
            have j5 : (0 : Int) < (H.size : Int) := by omega
            clear hz61 hHz
            go_wp2_with fail
            refine (refRParse_any X _ (by omega)).mono ?_
            rintro e w4 ⟨rv, bs, er, rfl, hrv, ⟨ra, rcap, rfl⟩, hpi, hb4, hf4⟩
            have hbY := below_then hb hb4
            have HG4 := Lib.hid (HG.out.below hb4)
            have hz4 := hbY.size
            rw [HXd.out] at hpi
            have HA1 := Lib.hid (fresh_apart hf4 HG.out.needs)
            have HA2 := Lib.hid (fresh_apart hf4 HG.out.picks)
            have HRv := Lib.hid hrv
            clear hrv hf4
            rcases rparseF_of hpi with ⟨he, hvp⟩ | ⟨he, hbs0, hvp⟩
            · subst he
              have HVp := Lib.hid hvp
              clear hpi hvp
              cases nk with
              | false =>
                have HF : Hid (asksL s.data.toList = none) := HLk.out (line_no1 HEq.out (.inr HNk.out))
                go_wp2_with fail
                refine (HNm.out _).mono ?_
                rintro e w5 ⟨rfl, hb5⟩
                have hbZ := below_then hbY hb5
                go_wp2_with fail
                go_ret3
                exact asks_err HF.out (below_then hb2 hbZ)
              | true =>
                have HLt := Lib.hid (HLn.out ⟨headAt 32 t, bs⟩ (.slice ra bs.length rcap) (line_need HEq.out HVp.out HNk.out))
                obtain ⟨i1', hin, hnz0, hnz1, hnz2⟩ := HIN.out
                go_wp2_with fail
                refine (HNm.out _).mono ?_
                rintro e w5 ⟨rfl, hb5⟩
                have hbZ := below_then hbY hb5
                have HG5 := Lib.hid (HG4.out.below hb5)
                have hz5 := hbZ.size
                go_wp2_with (at_builtin; go_must (refine wpList_append_own_at _ rfl _ _ 61 rfl w2.heap.size 100 i1' (.agg #[.string ⟨#[]⟩, .slice none 0 0]) 2 40 Tryz.underlying61 hin hnz0 hnz1 hnz2 rfl (by decide) _ _ _ rfl (HG5.out.alloc _).needs ⟨_, 0, none⟩ 1 1 [.string H, .slice ra bs.length rcap] rfl rfl (cells2_at _ _ (by simp) _ _ _) (by intro u hu; simp at hu; rcases hu with rfl | rfl <;> rfl) (by unfold maxLen; omega) (by omega) (by simp; omega) ?_))
                intro v' w6 hown6 hg6 _ hbk6
                have hb6 := below_grown (hbZ.alloc hz5 _) (HG5.out.alloc _).needs hg6 (by simp; omega)
                have HG6 := Lib.hid ((HG5.out.alloc _).need (x := ⟨headAt 32 t, bs⟩) (rv := .slice ra bs.length rcap) ⟨(HRv.out.below hb5 (Nat.le_refl _)).below ((Below.refl _ _).alloc (Nat.le_refl _) _) (Nat.le_refl _), ⟨_, _, rfl⟩⟩ (fun _ => ⟨HA1.out, HA2.out⟩) (by show World.ownsRow _ _ _ _ _ _ (_ ++ [.string (S _), _]); rw [HHs.out]; exact hown6) rfl hg6 (by simpa using hbk6))
                clear hown6 hg6 hbk6
                go_wp2
                go_roundg (ls.length - (k + 1))
                case measure => omega
                case rel => exact ⟨k + 1, ns ++ [_], ps, by omega, rfl, by go_num, HLt.out, by simp; omega, by omega, HG6.out, hb6⟩
            · subst he hbs0
              have HF : Hid (asksL s.data.toList = none) := HLk.out (line_no1 HEq.out (.inl hvp))
              clear hpi hvp
              go_wp2_with fail
              go_ret3
              exact asks_err HF.out (below_then hb2 hbY)
          · have j4' : decide ((0 : Int) < (j : Int)) = false := by simp; omega
            have j4'' : decide (0 < j) = false := decide_eq_false (by omega)
            clear hHz hj0
            go_wp2_with fail
            refine (refRParse_any X _ (by omega)).mono ?_
            rintro e w4 ⟨rv, bs, er, rfl, hrv, ⟨ra, rcap, rfl⟩, hpi, hb4, hf4⟩
            have hbY := below_then hb hb4
            have HG4 := Lib.hid (HG.out.below hb4)
            have hz4 := hbY.size
            rw [HXd.out] at hpi
            have HA1 := Lib.hid (fresh_apart hf4 HG.out.needs)
            have HA2 := Lib.hid (fresh_apart hf4 HG.out.picks)
            have HRv := Lib.hid hrv
            clear hrv hf4
            rcases rparseF_of hpi with ⟨he, hvp⟩ | ⟨he, hbs0, hvp⟩
            · subst he
              have HVp := Lib.hid hvp
              clear hpi hvp
              cases nk with
              | false =>
                have HF : Hid (asksL s.data.toList = none) := HLk.out (line_no1 HEq.out (.inr HNk.out))
                go_wp2_with fail
                refine (HNm.out _).mono ?_
                rintro e w5 ⟨rfl, hb5⟩
                have hbZ := below_then hbY hb5
                go_wp2_with fail
                go_ret3
                exact asks_err HF.out (below_then hb2 hbZ)
              | true =>
                have HLt := Lib.hid (HLn.out ⟨headAt 32 t, bs⟩ (.slice ra bs.length rcap) (line_need HEq.out HVp.out HNk.out))
                obtain ⟨i1', hin, hnz0, hnz1, hnz2⟩ := HIN.out
                go_wp2_with fail
                refine (HNm.out _).mono ?_
                rintro e w5 ⟨rfl, hb5⟩
                have hbZ := below_then hbY hb5
                have HG5 := Lib.hid (HG4.out.below hb5)
                have hz5 := hbZ.size
                go_wp2_with (at_builtin; go_must (refine wpList_append_own_at _ rfl _ _ 61 rfl w2.heap.size 100 i1' (.agg #[.string ⟨#[]⟩, .slice none 0 0]) 2 40 Tryz.underlying61 hin hnz0 hnz1 hnz2 rfl (by decide) _ _ _ rfl (HG5.out.alloc _).needs ⟨_, 0, none⟩ 1 1 [.string H, .slice ra bs.length rcap] rfl rfl (cells2_at _ _ (by simp) _ _ _) (by intro u hu; simp at hu; rcases hu with rfl | rfl <;> rfl) (by unfold maxLen; omega) (by omega) (by simp; omega) ?_))
                intro v' w6 hown6 hg6 _ hbk6
                have hb6 := below_grown (hbZ.alloc hz5 _) (HG5.out.alloc _).needs hg6 (by simp; omega)
                have HG6 := Lib.hid ((HG5.out.alloc _).need (x := ⟨headAt 32 t, bs⟩) (rv := .slice ra bs.length rcap) ⟨(HRv.out.below hb5 (Nat.le_refl _)).below ((Below.refl _ _).alloc (Nat.le_refl _) _) (Nat.le_refl _), ⟨_, _, rfl⟩⟩ (fun _ => ⟨HA1.out, HA2.out⟩) (by show World.ownsRow _ _ _ _ _ _ (_ ++ [.string (S _), _]); rw [HHs.out]; exact hown6) rfl hg6 (by simpa using hbk6))
                clear hown6 hg6 hbk6
                go_wp2
                go_roundg (ls.length - (k + 1))
                case measure => omega
                case rel => exact ⟨k + 1, ns ++ [_], ps, by omega, rfl, by go_num, HLt.out, by simp; omega, by omega, HG6.out, hb6⟩
            · subst he hbs0
              have HF : Hid (asksL s.data.toList = none) := HLk.out (line_no1 HEq.out (.inl hvp))
              clear hpi hvp
              go_wp2_with fail
              go_ret3
              exact asks_err HF.out (below_then hb2 hbY)
  · have hem2 : Lb.toList.isEmpty = false := by
      rw [Lib.toList_data]
      cases h : Lb.data.toList with
      | nil => exact absurd h hem
      | cons a l => rfl
    obtain ⟨ls, hls⟩ : ∃ ls, ls = qs := ⟨_, rfl⟩
    subst hls
    have HCX := HCl
    have HLL : Hid (asksL s.data.toList = linesL ls) := by
      show _ = _
      unfold asksL
      rw [HRf.out, HQs.out, HLg.out, if_neg (by rw [← HLb.out]; intro h; injection h with h; exact hem h)]
    have HLs : Hid (∀ p ∈ ls, p.length ≤ 90000) := by
      intro p hp
      rw [← HQs.out] at hp
      have := sepAt_size 10 _ p hp
      rw [← Lib.size_eq] at this; omega
    have hlm : ls.length ≤ 90001 := hqm
    clear hem
    go_wp2_with fail
    go_loopg [5, 6, 8, 9, 10, 11, 12, 13, 14, 15] ls.length (fun g vn vp i _ _ _ _ _ _ _ wr => RAkRel ls w2 g vn vp i wr)
    case atStart => exact ⟨0, [], [], Nat.zero_le _, rfl, rfl, rfl, Nat.le_refl _, Nat.le_refl _, Got.start _ _ _ _, Below.refl _ _⟩
    case round =>
      obtain ⟨k, ns, ps, hk, rfl, rfl, hlin, hns, hps, hgot, hb⟩ := hrel
      have HLin := Lib.hid hlin
      have HG := Lib.hid hgot
      have hbW := below_then hb2 hb
      obtain ⟨na, ncap, rfl⟩ := hgot.fn
      obtain ⟨pa, pcap, rfl⟩ := hgot.fp
      clear hlin hgot
      by_cases hlt : k < ls.length
      case neg =>
        have q3 : decide (k < ls.length) = false := decide_eq_false hlt
        have HF : Hid (asksL s.data.toList = some (ns.map Prod.fst, ps)) := by
          show _ = _
          rw [HLL.out, ← HLin.out, List.take_of_length_le (by omega)]
        clear hlt
        go_wp2_with fail
        go_ret3
        exact asks_ok HF.out HG.out hbW
      have i0 : (0 : Int) ≤ (k : Int) := by omega
      have i1 : (k : Int) < (ls.length : Int) := by omega
      have c0 := (hb.cell (p := ⟨g, k, none⟩) hg2).trans (HCX.out k hlt)
      obtain ⟨t, ht⟩ : ∃ t, ls[k] = t := ⟨_, rfl⟩
      have HLk : Hid (lineL t = none → asksL s.data.toList = none) := by
        intro h
        rw [HLL.out]
        exact linesL_bad hlt (by rw [ht]; exact h)
      have HLn : Hid (∀ x : Want, ∀ rv : Value, lineL t = some ([x], []) → linesL (ls.take (k + 1)) = some ((ns ++ [(x, rv)]).map Prod.fst, ps)) := fun x rv h => lines_need hlt HLin.out (by rw [ht]; exact h)
      have HLp : Hid (∀ x : Pck, lineL t = some ([], [x]) → linesL (ls.take (k + 1)) = some (ns.map Prod.fst, ps ++ [x])) := fun x h => lines_pick hlt HLin.out (by rw [ht]; exact h)
      have htz : t.length ≤ 90000 := by rw [← ht]; exact HLs.out _ (List.getElem_mem hlt)
      obtain ⟨A, hA⟩ : ∃ A, S t = A := ⟨_, rfl⟩
      have hAz : A.size ≤ 90000 := by rw [← hA, S_size]; exact htz
      have HAd : Hid (A.data.toList = t) := by show _ = _; rw [← hA]; rfl
      rw [ht, hA] at c0
      clear ht hA htz hlt
      go_wp2_with fail
      go_loop [9] (fun n => NlRel 32 A n) (fun n => A.size - (intOf n).toNat)
      case atStart => exact ⟨0, Nat.zero_le _, rfl, fun x hx => by simp at hx⟩
      case round =>
        obtain ⟨j, hj, rfl, hno⟩ := hrel
        have HN := Lib.hid hno
        clear hno
        by_cases hgo : ∃ h : j < A.size, A[j] ≠ 32
        · obtain ⟨hlt, hne⟩ := hgo
          have j0 : (0 : Int) ≤ (j : Int) := by omega
          have j1 : (j : Int) < (A.size : Int) := by omega
          have HT := Lib.hid (take_no hlt HN.out hne)
          obtain ⟨y, hy⟩ : ∃ y, A[j] = y := ⟨_, rfl⟩
          rw [hy] at hne
          have q1 : ((y.toNat : Int) != 32) = true := by rw [bne_iff_ne]; intro h; exact hne (UInt8.toNat_inj.1 (by show y.toNat = 32; omega))
          clear hne
          go_wp2_with fail
          go_round
          case rel => exact ⟨j + 1, by omega, by go_num, HT.out⟩
          case measure => simp [intOf]; omega
        by_cases hjs : j < A.size
        case neg =>
          have q4 : decide (j < A.size) = false := decide_eq_false hjs
          have q5 : ((j : Int) == (A.size : Int)) = true := by simp; omega
          have q6 : decide (j = A.size) = true := decide_eq_true (by omega)
          have HF : Hid (asksL s.data.toList = none) := by
            refine HLk.out (line_nosp ?_)
            have h := HN.out
            have e : j = A.size := by omega
            rw [e] at h
            rw [← HAd.out]
            exact (head_end h).2.2
          clear hgo hjs
          go_wp2_with fail
          go_ret3
          exact asks_err HF.out hbW
        have hj32 : A[j] = 32 := by
          by_cases h : A[j] = 32
          · exact h
          · exact absurd ⟨hjs, h⟩ hgo
        have j0 : (0 : Int) ≤ (j : Int) := by omega
        have j1 : (j : Int) < (A.size : Int) := by omega
        have j2 : (j : Int) ≤ (A.size : Int) := by omega
        have j3 : (j : Int) + 1 ≤ (A.size : Int) := by omega
        have q5 : ((j : Int) == (A.size : Int)) = false := by simp; omega
        have q6 : decide (j = A.size) = false := decide_eq_false (by omega)
        have q7 : decide (j < A.size) = true := decide_eq_true hjs
        obtain ⟨hc1, hc2, hc3⟩ := head_here hjs HN.out hj32
        rw [HAd.out] at hc1 hc2
        obtain ⟨y, hy⟩ : ∃ y, A[j] = y := ⟨_, rfl⟩
        rw [hy] at hj32
        have q1 : ((y.toNat : Int) != 32) = false := by rw [hj32]; decide
        obtain ⟨H, hH⟩ : ∃ H, A.extract 0 j = H := ⟨_, rfl⟩
        obtain ⟨X, hX⟩ : ∃ X, A.extract (j + 1) A.size = X := ⟨_, rfl⟩
        have HHd : Hid (H.data.toList = headAt 32 t) := by show _ = _; rw [← hH, sub_take, HAd.out, hc1]
        have HXd : Hid (X.data.toList = tailAt 32 t) := by show _ = _; rw [← hX, sub_drop, HAd.out, hc2]
        have hHz : H.size = j := by rw [Lib.size_eq, ← hH, sub_take, List.length_take, ← Lib.size_eq]; omega
        have hXz : X.size ≤ 90000 := by rw [Lib.size_eq, ← hX, sub_drop, List.length_drop, ← Lib.size_eq]; omega
        have HHs : Hid (S (headAt 32 t) = H) := by show _ = _; rw [← HHd.out]; rfl
        have HHz := Lib.hid hHz
        clear hgo hj32 hc1 hc2 hc3
        by_cases heq : (headAt 32 t).head? = some 61
        · have hj0 : 0 < j := by
            rcases Nat.eq_zero_or_pos j with h | h
            · have : H.data.toList = [] := List.eq_nil_of_length_eq_zero (by rw [← Lib.size_eq, hHz, h])
              rw [HHd.out] at this
              rw [this] at heq; cases heq
            · exact h
          have hH0 : 0 < H.size := by omega
          have hbh := byte_head0 H hH0
          obtain ⟨z, hz⟩ : ∃ z, H[0] = z := ⟨_, rfl⟩
          rw [hz, HHd.out] at hbh
          have hz61 : z = 61 := by rw [hbh] at heq; simpa using heq
          have q8 : ((z.toNat : Int) == 61) = true := by rw [hz61]; decide
          have j4 : (0 : Int) < (j : Int) := by omega
          have j5 : (0 : Int) < (H.size : Int) := by omega
          have j6 : (1 : Int) ≤ (H.size : Int) := by omega
          obtain ⟨P, hP⟩ : ∃ P, H.extract 1 H.size = P := ⟨_, rfl⟩
          have HPd : Hid (P.data.toList = (headAt 32 t).drop 1) := by show _ = _; rw [← hP, sub_drop, HHd.out]
          have HPs : Hid (S ((headAt 32 t).drop 1) = P) := by show _ = _; rw [← HPd.out]; rfl
          have HEq := Lib.hid heq
          obtain ⟨nk, hnk⟩ : ∃ b, nameOk P.data.toList = b := ⟨_, rfl⟩
          have HNm := Lib.hid (fun w => rname_as P nk hnk w)
          have HNk : Hid (nameOk ((headAt 32 t).drop 1) = nk) := by show _ = _; rw [← HPd.out]; exact hnk
          clear heq hnk hbh hz61 hHz
          go_wp2_with fail
          refine (refParse_any X _ (by omega)).mono ?_
          rintro e w4 ⟨va, vb, vc, vq, er, rfl, hpi, hb4⟩
          have hbY := below_then hb hb4
          have HG4 := Lib.hid (HG.out.below hb4)
          have hz4 := hbY.size
          rw [HXd.out] at hpi
          rcases vparseF_of hpi with ⟨he, hvp⟩ | ⟨he, ha0, hb0, hc0, hq0', hvp⟩
          · subst he
            have HVp := Lib.hid hvp
            clear hpi hvp
            cases nk with
            | false =>
              have HF : Hid (asksL s.data.toList = none) := HLk.out (line_no2 HEq.out (.inr HNk.out))
              go_wp2_with fail
              refine (HNm.out _).mono ?_
              rintro e w5 ⟨rfl, hb5⟩
              have hbZ := below_then (hbY.alloc hz4 _) hb5
              go_wp2_with fail
              go_ret3
              exact asks_err HF.out (below_then hb2 hbZ)
            | true =>
              have HLt := Lib.hid (HLp.out ⟨(headAt 32 t).drop 1, ⟨va, vb, vc, S vq⟩⟩ (line_pick HEq.out HVp.out HNk.out))
              obtain ⟨ip, hip, hpz0, hpz1, hpz2⟩ := HIP.out
              go_wp2_with fail
              refine (HNm.out _).mono ?_
              rintro e w5 ⟨rfl, hb5⟩
              have hbZ := below_then (hbY.alloc hz4 _) hb5
              have hx5 := box_of hb5
              have e0 := box_cells hx5 0
              have e1 := box_cells hx5 1
              have e2 := box_cells hx5 2
              have e3 := box_cells hx5 3
              simp at e0 e1 e2 e3
              have HG5 := Lib.hid ((HG4.out.alloc _).below hb5)
              have hz5 := hbZ.size
              go_wp2_with fail
              have HG6 := Lib.hid (HG5.out.below ((Below.refl _ _).drew))
              go_region_law (refine step_append_at rfl (.tmp 94) (.tmp 99) 62 rfl w2.heap.size 93 ip (.agg #[.string ⟨#[]⟩, .int .i64 0, .int .i64 0, .int .i64 0, .string ⟨#[]⟩]) 5 56 Tryz.underlying62 hip hpz0 hpz1 hpz2 rfl (by decide) _ _ _ (by simp [Act.eval]) (HG6.out.alloc _).picks ⟨_, 0, none⟩ 1 1 [.string P, .int .i64 va, .int .i64 vb, .int .i64 vc, .string (S vq)] (by first | (simp [Act.eval]; done) | (simp [Act.eval]; rfl)) rfl (cells5_at _ _ (by simp) _ _ _ _ _ _) (by intro u hu; simp at hu; rcases hu with rfl | rfl | rfl | rfl | rfl <;> rfl) (by unfold maxLen; omega) (by omega) (by simp; omega) ?_; intro v' w6 hown6 hg6 hbk6)
              have hb6 := below_grown (hbZ.drew.alloc (by simp; omega) _) (HG6.out.alloc _).picks hg6 (by simp; omega)
              have HG7 := Lib.hid ((HG6.out.alloc _).pick (x := ⟨(headAt 32 t).drop 1, ⟨va, vb, vc, S vq⟩⟩) (by show World.ownsRow _ _ _ _ _ _ (_ ++ [.string (S _), _, _, _, _]); rw [HPs.out]; exact hown6) rfl hg6 (by simpa using hbk6))
              clear hown6 hg6 hbk6
              go_wp2
              go_roundg (ls.length - (k + 1))
              case measure => omega
              case rel => exact ⟨k + 1, ns, ps ++ [_], by omega, rfl, by go_num, HLt.out, by omega, by simp; omega, HG7.out, hb6⟩
          · subst he ha0 hb0 hc0 hq0'
            have HF : Hid (asksL s.data.toList = none) := HLk.out (line_no2 HEq.out (.inl hvp))
            clear hpi hvp
            go_wp2_with fail
            go_ret3
            exact asks_err HF.out ((below_then hb2 hbY).alloc (below_then hb2 hbY).size _)
        · have HEq := Lib.hid heq
          obtain ⟨nk, hnk⟩ : ∃ b, nameOk H.data.toList = b := ⟨_, rfl⟩
          have HNm := Lib.hid (fun w => rname_as H nk hnk w)
          have HNk : Hid (nameOk (headAt 32 t) = nk) := by show _ = _; rw [← HHd.out]; exact hnk
          have hways : (∃ h : 0 < H.size, H[0] ≠ 61) ∨ j = 0 := by
            rcases Nat.eq_zero_or_pos j with h | h
            · exact .inr h
            · left
              have h0 : 0 < H.size := by omega
              refine ⟨h0, fun h61 => ?_⟩
              have hbh := byte_head0 H h0
              rw [h61, HHd.out] at hbh
              exact heq (by rw [hbh]; rfl)
          clear heq hnk
          rcases hways with ⟨hH0, hz61⟩ | hj0
          · obtain ⟨z, hz⟩ : ∃ z, H[0] = z := ⟨_, rfl⟩
            rw [hz] at hz61
            have q8 : ((z.toNat : Int) == 61) = false := by rw [beq_eq_false_iff_ne]; intro h; exact hz61 (UInt8.toNat_inj.1 (by show z.toNat = 61; omega))
            have j4 : (0 : Int) < (j : Int) := by omega
            have j4' : decide ((0 : Int) < (j : Int)) = true := by simp; omega
            have j4'' : decide (0 < j) = true := decide_eq_true (by omega)
            have j5 : (0 : Int) < (H.size : Int) := by omega
            clear hz61 hHz
            go_wp2_with fail
            refine (refRParse_any X _ (by omega)).mono ?_
            rintro e w4 ⟨rv, bs, er, rfl, hrv, ⟨ra, rcap, rfl⟩, hpi, hb4, hf4⟩
            have hbY := below_then hb hb4
            have HG4 := Lib.hid (HG.out.below hb4)
            have hz4 := hbY.size
            rw [HXd.out] at hpi
            have HA1 := Lib.hid (fresh_apart hf4 HG.out.needs)
            have HA2 := Lib.hid (fresh_apart hf4 HG.out.picks)
            have HRv := Lib.hid hrv
            clear hrv hf4
            rcases rparseF_of hpi with ⟨he, hvp⟩ | ⟨he, hbs0, hvp⟩
            · subst he
              have HVp := Lib.hid hvp
              clear hpi hvp
              cases nk with
              | false =>
                have HF : Hid (asksL s.data.toList = none) := HLk.out (line_no1 HEq.out (.inr HNk.out))
                go_wp2_with fail
                refine (HNm.out _).mono ?_
                rintro e w5 ⟨rfl, hb5⟩
                have hbZ := below_then hbY hb5
                go_wp2_with fail
                go_ret3
                exact asks_err HF.out (below_then hb2 hbZ)
              | true =>
                have HLt := Lib.hid (HLn.out ⟨headAt 32 t, bs⟩ (.slice ra bs.length rcap) (line_need HEq.out HVp.out HNk.out))
                obtain ⟨i1', hin, hnz0, hnz1, hnz2⟩ := HIN.out
                go_wp2_with fail
                refine (HNm.out _).mono ?_
                rintro e w5 ⟨rfl, hb5⟩
                have hbZ := below_then hbY hb5
                have HG5 := Lib.hid (HG4.out.below hb5)
                have hz5 := hbZ.size
                go_wp2_with (at_builtin; go_must (refine wpList_append_own_at _ rfl _ _ 61 rfl w2.heap.size 100 i1' (.agg #[.string ⟨#[]⟩, .slice none 0 0]) 2 40 Tryz.underlying61 hin hnz0 hnz1 hnz2 rfl (by decide) _ _ _ rfl (HG5.out.alloc _).needs ⟨_, 0, none⟩ 1 1 [.string H, .slice ra bs.length rcap] rfl rfl (cells2_at _ _ (by simp) _ _ _) (by intro u hu; simp at hu; rcases hu with rfl | rfl <;> rfl) (by unfold maxLen; omega) (by omega) (by simp; omega) ?_))
                intro v' w6 hown6 hg6 _ hbk6
                have hb6 := below_grown (hbZ.alloc hz5 _) (HG5.out.alloc _).needs hg6 (by simp; omega)
                have HG6 := Lib.hid ((HG5.out.alloc _).need (x := ⟨headAt 32 t, bs⟩) (rv := .slice ra bs.length rcap) ⟨(HRv.out.below hb5 (Nat.le_refl _)).below ((Below.refl _ _).alloc (Nat.le_refl _) _) (Nat.le_refl _), ⟨_, _, rfl⟩⟩ (fun _ => ⟨HA1.out, HA2.out⟩) (by show World.ownsRow _ _ _ _ _ _ (_ ++ [.string (S _), _]); rw [HHs.out]; exact hown6) rfl hg6 (by simpa using hbk6))
                clear hown6 hg6 hbk6
                go_wp2
                go_roundg (ls.length - (k + 1))
                case measure => omega
                case rel => exact ⟨k + 1, ns ++ [_], ps, by omega, rfl, by go_num, HLt.out, by simp; omega, by omega, HG6.out, hb6⟩
            · subst he hbs0
              have HF : Hid (asksL s.data.toList = none) := HLk.out (line_no1 HEq.out (.inl hvp))
              clear hpi hvp
              go_wp2_with fail
              go_ret3
              exact asks_err HF.out (below_then hb2 hbY)
          · have j4' : decide ((0 : Int) < (j : Int)) = false := by simp; omega
            have j4'' : decide (0 < j) = false := decide_eq_false (by omega)
            clear hHz hj0
            go_wp2_with fail
            refine (refRParse_any X _ (by omega)).mono ?_
            rintro e w4 ⟨rv, bs, er, rfl, hrv, ⟨ra, rcap, rfl⟩, hpi, hb4, hf4⟩
            have hbY := below_then hb hb4
            have HG4 := Lib.hid (HG.out.below hb4)
            have hz4 := hbY.size
            rw [HXd.out] at hpi
            have HA1 := Lib.hid (fresh_apart hf4 HG.out.needs)
            have HA2 := Lib.hid (fresh_apart hf4 HG.out.picks)
            have HRv := Lib.hid hrv
            clear hrv hf4
            rcases rparseF_of hpi with ⟨he, hvp⟩ | ⟨he, hbs0, hvp⟩
            · subst he
              have HVp := Lib.hid hvp
              clear hpi hvp
              cases nk with
              | false =>
                have HF : Hid (asksL s.data.toList = none) := HLk.out (line_no1 HEq.out (.inr HNk.out))
                go_wp2_with fail
                refine (HNm.out _).mono ?_
                rintro e w5 ⟨rfl, hb5⟩
                have hbZ := below_then hbY hb5
                go_wp2_with fail
                go_ret3
                exact asks_err HF.out (below_then hb2 hbZ)
              | true =>
                have HLt := Lib.hid (HLn.out ⟨headAt 32 t, bs⟩ (.slice ra bs.length rcap) (line_need HEq.out HVp.out HNk.out))
                obtain ⟨i1', hin, hnz0, hnz1, hnz2⟩ := HIN.out
                go_wp2_with fail
                refine (HNm.out _).mono ?_
                rintro e w5 ⟨rfl, hb5⟩
                have hbZ := below_then hbY hb5
                have HG5 := Lib.hid (HG4.out.below hb5)
                have hz5 := hbZ.size
                go_wp2_with (at_builtin; go_must (refine wpList_append_own_at _ rfl _ _ 61 rfl w2.heap.size 100 i1' (.agg #[.string ⟨#[]⟩, .slice none 0 0]) 2 40 Tryz.underlying61 hin hnz0 hnz1 hnz2 rfl (by decide) _ _ _ rfl (HG5.out.alloc _).needs ⟨_, 0, none⟩ 1 1 [.string H, .slice ra bs.length rcap] rfl rfl (cells2_at _ _ (by simp) _ _ _) (by intro u hu; simp at hu; rcases hu with rfl | rfl <;> rfl) (by unfold maxLen; omega) (by omega) (by simp; omega) ?_))
                intro v' w6 hown6 hg6 _ hbk6
                have hb6 := below_grown (hbZ.alloc hz5 _) (HG5.out.alloc _).needs hg6 (by simp; omega)
                have HG6 := Lib.hid ((HG5.out.alloc _).need (x := ⟨headAt 32 t, bs⟩) (rv := .slice ra bs.length rcap) ⟨(HRv.out.below hb5 (Nat.le_refl _)).below ((Below.refl _ _).alloc (Nat.le_refl _) _) (Nat.le_refl _), ⟨_, _, rfl⟩⟩ (fun _ => ⟨HA1.out, HA2.out⟩) (by show World.ownsRow _ _ _ _ _ _ (_ ++ [.string (S _), _]); rw [HHs.out]; exact hown6) rfl hg6 (by simpa using hbk6))
                clear hown6 hg6 hbk6
                go_wp2
                go_roundg (ls.length - (k + 1))
                case measure => omega
                case rel => exact ⟨k + 1, ns ++ [_], ps, by omega, rfl, by go_num, HLt.out, by simp; omega, by omega, HG6.out, hb6⟩
            · subst he hbs0
              have HF : Hid (asksL s.data.toList = none) := HLk.out (line_no1 HEq.out (.inl hvp))
              clear hpi hvp
              go_wp2_with fail
              go_ret3
              exact asks_err HF.out (below_then hb2 hbY)
end Go.Proofs.YtjjpngdbbjeaiaaGreatDoor
