/- The program's ranges: Parse: a walk. -/
import Derived.Test.YtjjpngdbbjeaiaaGreatDoorRanProg2
import Derived.Test.YtjjpngdbbjeaiaaGreatDoorRanProg4
import Derived.Test.YtjjpngdbbjeaiaaGreatDoorRanMath3
namespace Go.Proofs.YtjjpngdbbjeaiaaGreatDoor
open Go.RowKit
theorem info_bound : (Tryz.prog.info? 147).map (fun i => (i.zero, i.size, i.bytes)) = some (some (.agg #[.int .i64 0, .int .i64 0, .int .i64 0, .int .i64 0, .string ⟨#[]⟩]), 5, 48) := by kernel_rfl
theorem cells5_new (w : World) (a b c d e : Value) (t : TypeId) : ∀ j u, [a, b, c, d, e][j]? = some u → (w.alloc (.cells #[a, b, c, d, e] t)).cell? ((⟨w.heap.size, 0, none⟩ : Addr).add j) = some u := by
  intro j u hj
  match j, hj with
  | 0, hj => simp at hj; subst hj; simp [Addr.add]
  | 1, hj => simp at hj; subst hj; simp [Addr.add]
  | 2, hj => simp at hj; subst hj; simp [Addr.add]
  | 3, hj => simp at hj; subst hj; simp [Addr.add]
  | 4, hj => simp at hj; subst hj; simp [Addr.add]
theorem cells5_at (w : World) (B : Nat) (hB : B = w.heap.size) (a b c d e : Value) (t : TypeId) : ∀ j u, [a, b, c, d, e][j]? = some u → (w.alloc (.cells #[a, b, c, d, e] t)).cell? ((⟨B, 0, none⟩ : Addr).add j) = some u := by
  subst hB; exact cells5_new w a b c d e t
def RPRel (ls : List (List UInt8)) (w2 : World) (v i : Value) (wr : World) : Prop :=
  ∃ (k : Nat) (bs : List Bnd), k ≤ ls.length ∧ i = .int .i64 (k : Int) ∧ BoundsAre (ls.take k) bs ∧ bs.length ≤ 20 ∧ wr.ownsRow w2.heap.size 147 5 v bs.length (bs.flatMap Bnd.cells) ∧ (∃ a cap, v = .slice a bs.length cap) ∧ Below w2.heap.size w2 wr
theorem byte_head (s : ByteArray) (h : 0 < s.size) : s.data.toList = s[0] :: s.data.toList.drop 1 := by
  have hl : 0 < s.data.toList.length := by rw [← Lib.size_eq]; exact h
  have := List.drop_eq_getElem_cons hl
  rw [List.drop_zero] at this
  exact this
set_option maxRecDepth 100000 in
set_option maxHeartbeats 8000000 in
theorem rparse_any (s : ByteArray) (w : World) (hE : Env w) (hs : s.size ≤ 100000) :
    Calls Tryz.prog 57 #[.string s] w (RParseAs s.data.toList w) := by
  have HE := Lib.hid hE
  clear hE
  have HI := Lib.hid (info_parts info_bound)
  by_cases hstar : s.data.toList = [42]
  · have q1 : (s.toList == [42]) = true := by rw [Lib.toList_data, hstar]; decide
    have H := Lib.hid hstar
    clear hstar
    go_enter Tryz.func57, Tryz.ntmps57
    go_wp2_with fail
    go_ret2
    exact rparse_star H.out (Below.refl _ _)
  have q1 : (s.toList == [42]) = false := by rw [Lib.toList_data]; exact beq_eq_false_iff_ne.2 hstar
  have HS := Lib.hid hstar
  clear hstar
  have hcase : (∃ h : 0 < s.size, s[0] = 94) ∨ (∃ h : 0 < s.size, s[0] ≠ 94) ∨ s.size = 0 := by
    by_cases h : 0 < s.size
    · by_cases h2 : s[0] = 94
      · exact .inl ⟨h, h2⟩
      · exact .inr (.inl ⟨h, h2⟩)
    · exact .inr (.inr (by omega))
  rcases hcase with ⟨hsz, hx⟩ | hcase
  · have hsi : (0 : Int) < (s.size : Int) := by omega
    have hs1 : (1 : Int) ≤ (s.size : Int) := by omega
    have hem : s.toList.isEmpty = false := by
      rw [Lib.toList_data, byte_head s hsz]; rfl
    have HB := Lib.hid (byte_head s hsz)
    obtain ⟨x, hxe⟩ : ∃ x, s[0] = x := ⟨_, rfl⟩
    rw [hxe] at hx HB
    have qx : ((x.toNat : Int) == 94) = true := by rw [hx]; decide
    rw [hx] at HB
    obtain ⟨D, hD⟩ : ∃ D, s.extract 1 s.size = D := ⟨_, rfl⟩
    have HD : Hid (D.data.toList = s.data.toList.drop 1) := by show _ = _; rw [← hD, sub_end]
    have HDs : Hid (D.size ≤ 100000) := by show _ ≤ _; rw [Lib.size_eq, HD.out, List.length_drop, ← Lib.size_eq]; omega
    clear hx
    go_enter Tryz.func57, Tryz.ntmps57
    go_wp2_with fail
    refine (parse_any D _ HE.out (by have := HDs.out; omega)).mono ?_
    rintro e w1 ⟨a, b, c, p, er, rfl, hpi, hb1⟩
    rw [HD.out] at hpi
    have HPI := Lib.hid hpi
    clear hpi
    by_cases he0 : er = 0
    · have qe : (er != 0) = false := by simpa using he0
      have HV : Hid (V4.IsShow ⟨a, b, c, S p⟩ (s.data.toList.drop 1)) := by
        rcases HPI.out with ⟨_, h⟩ | ⟨h, _⟩
        · exact ⟨h.1, h.2⟩
        · rw [he0] at h; cases h
      have HPs : Hid ((S p).size ≤ 9223372036854775807) := by
        have := (verOk_bounds HV.out.1)
        dsimp only at this
        show _ ≤ _
        rw [Lib.size_eq]
        omega
      clear he0
      go_wp2_with fail
      refine (near_new ⟨a, b, c, S p⟩ _ ((HE.out.below hb1).alloc _) HPs.out).mono ?_
      rintro e w2 ⟨y, rfl, hy, ⟨ya, ycap, rfl⟩, hb2, hf2⟩
      have hf2 := hf2.mono (B' := w.heap.size) (by have := hb1.size; simp; omega)
      have hb4 := below_then hb1 (below_first (box_of hb2))
      clear hb2
      go_wp2_with fail
      go_ret2
      exact ⟨_, _, 0, rfl, hy, ⟨ya, ycap, rfl⟩, rparse_near HB.out HV.out, hb4, hf2⟩
    · have qe : (er != 0) = true := by simpa using he0
      have HV : Hid (RParseIs s.data.toList [] 50) := by
        rcases HPI.out with ⟨h, _⟩ | ⟨_, _, _, _, _, h⟩
        · exact absurd h he0
        · exact rparse_nonear HB.out h
      clear he0
      have hb4 := hb1.alloc hb1.size (.cells #[.int .i64 a, .int .i64 b, .int .i64 c, .string (S p)] 23)
      go_wp2_with fail
      go_ret2
      exact rparse_err HV.out hb4
  have HH : Hid (s.data.toList.head? ≠ some 94) := by
    rcases hcase with ⟨h, h2⟩ | h
    · show _ ≠ _
      rw [byte_head s h]; simpa using h2
    · have : s.data.toList = [] := by rw [Lib.size_eq] at h; exact List.eq_nil_of_length_eq_zero h
      show _ ≠ _
      rw [this]; simp
  obtain ⟨ls, hls⟩ : ∃ ls, sepAt 32 s.data.toList = ls := ⟨_, rfl⟩
  have HL := Lib.hid hls
  have hl0 : 0 < ls.length := by rw [← hls]; exact List.length_pos_iff.2 (sepAt_ne _ _)
  have HLs : Hid (∀ p ∈ ls, p.length ≤ s.size) := by
    intro p hp
    rw [← hls] at hp
    have := sepAt_size _ _ p hp
    rw [← Lib.size_eq] at this; exact this
  have hl1 : ls.length ≤ s.size + 1 := by
    rw [← hls, sepAt_count, Lib.size_eq]; have := List.count_le_length (a := (32 : UInt8)) (l := s.data.toList); omega
  have HL1 := Lib.hid hl1
  clear hls hl1
  rcases hcase with ⟨hsz, hx⟩ | he
  · have hsi : (0 : Int) < (s.size : Int) := by omega
    have hem : s.toList.isEmpty = false := by
      rw [Lib.toList_data, byte_head s hsz]; rfl
    obtain ⟨x, hxe⟩ : ∃ x, s[0] = x := ⟨_, rfl⟩
    rw [hxe] at hx
    have qx : ((x.toNat : Int) == 94) = false := by
      rw [beq_eq_false_iff_ne]; intro h; exact hx (UInt8.toNat_inj.1 (by show x.toNat = 94; omega))
    clear hx
    by_cases hbig : 2000 < s.size
    · have q2 : decide (2000 < (s.size : Int)) = true := by simp; omega
      have HO : Hid (RParseIs s.data.toList [] 50) := rparse_long HS.out HH.out (by rw [← Lib.size_eq]; exact hbig)
      clear hbig
      go_enter Tryz.func57, Tryz.ntmps57
      go_wp2_with fail
      go_ret2
      exact rparse_err HO.out (Below.refl _ _)
    · have q2 : decide (2000 < (s.size : Int)) = false := by simp; omega
      have hsm : s.size ≤ 2000 := by omega
      clear hbig
      go_enter Tryz.func57, Tryz.ntmps57
      go_wp2_with fail
      refine (splitB_any s _ HE.out (by omega)).mono ?_
      rintro e w2 ⟨v, rfl, hv, hb2⟩
      rw [HL.out] at hv
      obtain ⟨bx, ox, capx, rfl, hbx, hcx⟩ := hv.full hl0
      have HCX := Lib.hid hcx
      have hlm : ls.length ≤ 3000 := by have := HL1.out; omega
      clear hcx hv
      go_wp2_with fail
      go_loopw [6, 8, 9, 10, 36] (fun v _ _ _ i wr => RPRel ls w2 v i wr) (fun _ _ _ _ i _ => ls.length - (intOf i).toNat)
      case atStart => exact ⟨0, [], Nat.zero_le _, rfl, trivial, by decide, World.ownsRow_nil _ _ _ _, ⟨_, _, rfl⟩, Below.refl _ _⟩
      case round =>
        obtain ⟨k, bs, hk, rfl, hba, hb20, hown, ⟨va, vcap, rfl⟩, hb⟩ := hrel
        have HBA := Lib.hid hba
        have HO := Lib.hid hown
        clear hba hown
        by_cases hlt : k < ls.length
        · have i0 : (0 : Int) ≤ (k : Int) := by omega
          have i1 : (k : Int) < (ls.length : Int) := by omega
          have c0 := (hb.cell (p := ⟨bx, ox + k, none⟩) hbx).trans (HCX.out k hlt)
          have HT := Lib.hid (List.take_succ_eq_append_getElem hlt)
          have HPz := Lib.hid (HLs.out _ (List.getElem_mem hlt))
          have HK : Hid (∃ h : k < (sepAt 32 s.data.toList).length, (sepAt 32 s.data.toList)[k] = ls[k]) := by
            have h := HL.out
            subst h
            exact ⟨hlt, rfl⟩
          have HBl : Hid (bs.length = k) := by have h := HBA.out.len; rw [List.length_take] at h; show _ = _; omega
          obtain ⟨t, ht⟩ : ∃ t, ls[k] = t := ⟨_, rfl⟩
          rw [ht] at c0 HT HPz HK
          clear ht
          obtain ⟨A, hA⟩ : ∃ A, S t = A := ⟨_, rfl⟩
          rw [hA] at c0
          have HAt : Hid (A.data.toList = t) := by show _ = _; rw [← hA]; rfl
          have HAs : Hid (A.size ≤ 100000) := by have := HPz.out; show _ ≤ _; rw [← hA, S_size]; omega
          clear hA
          go_wp2_with fail
          refine (bound_any A _ (HE.out.below (below_then hb2 hb)) HAs.out).mono ?_
          rintro e w3 ⟨b, ok, rfl, hbi, hb3⟩
          rw [HAt.out] at hbi
          have HBI := Lib.hid hbi
          have hb5 := hb.trans (hb3.mono hb.size)
          have HO3 := Lib.hid (owns_below HO.out hb3)
          have hB3 := hb5.size
          clear hbi hb3
          cases ok
          · have HF : Hid (RParseIs s.data.toList [] 50) := by
              obtain ⟨h1, h2⟩ := HK.out
              refine range_no HS.out HH.out k h1 (.inr ?_)
              rcases HBI.out with ⟨h, _⟩ | ⟨_, _, h⟩
              · cases h
              · rw [h2]; exact h
            go_wp2_with fail
            go_ret2
            exact rparse_err HF.out (below_then hb2 (hb5.alloc hB3 _))
          · have HBK : Hid (b.ok = true ∧ b.show = t) := by
              rcases HBI.out with ⟨_, h1, h2⟩ | ⟨h, _⟩
              · exact ⟨h1, h2⟩
              · cases h
            by_cases h20 : bs.length = 20
            · have q20 : ((bs.length : Int) == 20) = true := by rw [h20]; decide
              have q20' : decide (bs.length = 20) = true := by simpa using h20
              have HF : Hid (RParseIs s.data.toList [] 50) := by
                obtain ⟨h1, h2⟩ := HK.out
                exact range_no HS.out HH.out k h1 (.inl (by have := HBl.out; omega))
              clear h20
              go_wp2_with fail
              go_ret2
              exact rparse_err HF.out (below_then hb2 (hb5.alloc hB3 _))
            · have q20 : ((bs.length : Int) == 20) = false := by simp; omega
              have q20' : decide (bs.length = 20) = false := by simpa using h20
              obtain ⟨i0', hi, hz0, hz1, hz2⟩ := HI.out
              have hb19 : bs.length ≤ 19 := by omega
              clear h20
              go_wp2_with (at_builtin; go_must (refine wpList_append_own _ rfl _ _ 96 rfl w2.heap.size 147 i0' (.agg #[.int .i64 0, .int .i64 0, .int .i64 0, .int .i64 0, .string ⟨#[]⟩]) 5 48 Tryz.underlying96 hi hz0 hz1 hz2 rfl (by decide) _ _ _ rfl ((HO3.out.alloc _).alloc _) ⟨_, 0, none⟩ 1 1 [.int .i64 b.op, .int .i64 b.v.a, .int .i64 b.v.b, .int .i64 b.v.c, .string b.v.p] rfl rfl ?c1 ?c2 ?c3 ?c4 ?c5 ?_))
              case c1 => exact cells5_at _ _ (by simp) _ _ _ _ _ _
              case c2 => intro u hu; simp at hu; rcases hu with rfl | rfl | rfl | rfl | rfl <;> rfl
              case c3 => unfold maxLen; omega
              case c4 => omega
              case c5 => simp; omega
              intro v' w5 hown2 hg2 _
              have hb6 := below_grown ((hb5.alloc hB3 _).alloc (by simp; omega) _) ((HO3.out.alloc _).alloc _) hg2 (by simp; omega)
              obtain ⟨g2, cap2, hv2⟩ := Joins.ownsRow_form hown2 (by omega)
              subst hv2
              have HO2 := Lib.hid hown2
              clear hg2 hown2
              go_wp2
              go_roundw
              case rel =>
                refine ⟨k + 1, bs ++ [b], hlt, by go_num, ?_, by simp; omega, ?_, ⟨some ⟨g2, 0, none⟩, cap2, by rw [List.length_append]; rfl⟩, hb6⟩
                · rw [HT.out]; exact HBA.out.snoc HBK.out.1 HBK.out.2
                · have h := HO2.out
                  rw [List.flatMap_append, List.length_append]
                  exact h
              case measure => simp [intOf]; omega
        · have q3 : decide (k < ls.length) = false := by simp; omega
          have HK : Hid (BoundsAre (sepAt 32 s.data.toList) bs) := by
            have h := HBA.out
            rw [List.take_of_length_le (by omega)] at h
            rw [← HL.out] at h; exact h
          clear hlt
          go_wp2_with fail
          go_ret2
          exact ⟨_, bs, 0, rfl, Bnds.of_owns HO.out, ⟨_, _, rfl⟩, .inl ⟨rfl, range_yes HK.out hb20⟩, below_then hb2 hb, (FreshV.of_owns HO.out).mono hb2.size⟩
  · have hem : s.toList.isEmpty = true := by
      rw [Lib.toList_data, List.isEmpty_iff]; rw [Lib.size_eq] at he; exact List.eq_nil_of_length_eq_zero he
    have hz : s.size ≤ 2000 := by omega
    clear he
    by_cases hbig : 2000 < s.size
    · have q2 : decide (2000 < (s.size : Int)) = true := by simp; omega
      have HO : Hid (RParseIs s.data.toList [] 50) := rparse_long HS.out HH.out (by rw [← Lib.size_eq]; exact hbig)
      clear hbig
      go_enter Tryz.func57, Tryz.ntmps57
      go_wp2_with fail
      go_ret2
      exact rparse_err HO.out (Below.refl _ _)
    · have q2 : decide (2000 < (s.size : Int)) = false := by simp; omega
      have hsm : s.size ≤ 2000 := by omega
      clear hbig
      go_enter Tryz.func57, Tryz.ntmps57
      go_wp2_with fail
      refine (splitB_any s _ HE.out (by omega)).mono ?_
      rintro e w2 ⟨v, rfl, hv, hb2⟩
      rw [HL.out] at hv
      obtain ⟨bx, ox, capx, rfl, hbx, hcx⟩ := hv.full hl0
      have HCX := Lib.hid hcx
      have hlm : ls.length ≤ 3000 := by have := HL1.out; omega
      clear hcx hv
      go_wp2_with fail
      go_loopw [6, 8, 9, 10, 36] (fun v _ _ _ i wr => RPRel ls w2 v i wr) (fun _ _ _ _ i _ => ls.length - (intOf i).toNat)
      case atStart => exact ⟨0, [], Nat.zero_le _, rfl, trivial, by decide, World.ownsRow_nil _ _ _ _, ⟨_, _, rfl⟩, Below.refl _ _⟩
      case round =>
        obtain ⟨k, bs, hk, rfl, hba, hb20, hown, ⟨va, vcap, rfl⟩, hb⟩ := hrel
        have HBA := Lib.hid hba
        have HO := Lib.hid hown
        clear hba hown
        by_cases hlt : k < ls.length
        · have i0 : (0 : Int) ≤ (k : Int) := by omega
          have i1 : (k : Int) < (ls.length : Int) := by omega
          have c0 := (hb.cell (p := ⟨bx, ox + k, none⟩) hbx).trans (HCX.out k hlt)
          have HT := Lib.hid (List.take_succ_eq_append_getElem hlt)
          have HPz := Lib.hid (HLs.out _ (List.getElem_mem hlt))
          have HK : Hid (∃ h : k < (sepAt 32 s.data.toList).length, (sepAt 32 s.data.toList)[k] = ls[k]) := by
            have h := HL.out
            subst h
            exact ⟨hlt, rfl⟩
          have HBl : Hid (bs.length = k) := by have h := HBA.out.len; rw [List.length_take] at h; show _ = _; omega
          obtain ⟨t, ht⟩ : ∃ t, ls[k] = t := ⟨_, rfl⟩
          rw [ht] at c0 HT HPz HK
          clear ht
          obtain ⟨A, hA⟩ : ∃ A, S t = A := ⟨_, rfl⟩
          rw [hA] at c0
          have HAt : Hid (A.data.toList = t) := by show _ = _; rw [← hA]; rfl
          have HAs : Hid (A.size ≤ 100000) := by have := HPz.out; show _ ≤ _; rw [← hA, S_size]; omega
          clear hA
          go_wp2_with fail
          refine (bound_any A _ (HE.out.below (below_then hb2 hb)) HAs.out).mono ?_
          rintro e w3 ⟨b, ok, rfl, hbi, hb3⟩
          rw [HAt.out] at hbi
          have HBI := Lib.hid hbi
          have hb5 := hb.trans (hb3.mono hb.size)
          have HO3 := Lib.hid (owns_below HO.out hb3)
          have hB3 := hb5.size
          clear hbi hb3
          cases ok
          · have HF : Hid (RParseIs s.data.toList [] 50) := by
              obtain ⟨h1, h2⟩ := HK.out
              refine range_no HS.out HH.out k h1 (.inr ?_)
              rcases HBI.out with ⟨h, _⟩ | ⟨_, _, h⟩
              · cases h
              · rw [h2]; exact h
            go_wp2_with fail
            go_ret2
            exact rparse_err HF.out (below_then hb2 (hb5.alloc hB3 _))
          · have HBK : Hid (b.ok = true ∧ b.show = t) := by
              rcases HBI.out with ⟨_, h1, h2⟩ | ⟨h, _⟩
              · exact ⟨h1, h2⟩
              · cases h
            by_cases h20 : bs.length = 20
            · have q20 : ((bs.length : Int) == 20) = true := by rw [h20]; decide
              have q20' : decide (bs.length = 20) = true := by simpa using h20
              have HF : Hid (RParseIs s.data.toList [] 50) := by
                obtain ⟨h1, h2⟩ := HK.out
                exact range_no HS.out HH.out k h1 (.inl (by have := HBl.out; omega))
              clear h20
              go_wp2_with fail
              go_ret2
              exact rparse_err HF.out (below_then hb2 (hb5.alloc hB3 _))
            · have q20 : ((bs.length : Int) == 20) = false := by simp; omega
              have q20' : decide (bs.length = 20) = false := by simpa using h20
              obtain ⟨i0', hi, hz0, hz1, hz2⟩ := HI.out
              have hb19 : bs.length ≤ 19 := by omega
              clear h20
              go_wp2_with (at_builtin; go_must (refine wpList_append_own _ rfl _ _ 96 rfl w2.heap.size 147 i0' (.agg #[.int .i64 0, .int .i64 0, .int .i64 0, .int .i64 0, .string ⟨#[]⟩]) 5 48 Tryz.underlying96 hi hz0 hz1 hz2 rfl (by decide) _ _ _ rfl ((HO3.out.alloc _).alloc _) ⟨_, 0, none⟩ 1 1 [.int .i64 b.op, .int .i64 b.v.a, .int .i64 b.v.b, .int .i64 b.v.c, .string b.v.p] rfl rfl ?c1 ?c2 ?c3 ?c4 ?c5 ?_))
              case c1 => exact cells5_at _ _ (by simp) _ _ _ _ _ _
              case c2 => intro u hu; simp at hu; rcases hu with rfl | rfl | rfl | rfl | rfl <;> rfl
              case c3 => unfold maxLen; omega
              case c4 => omega
              case c5 => simp; omega
              intro v' w5 hown2 hg2 _
              have hb6 := below_grown ((hb5.alloc hB3 _).alloc (by simp; omega) _) ((HO3.out.alloc _).alloc _) hg2 (by simp; omega)
              obtain ⟨g2, cap2, hv2⟩ := Joins.ownsRow_form hown2 (by omega)
              subst hv2
              have HO2 := Lib.hid hown2
              clear hg2 hown2
              go_wp2
              go_roundw
              case rel =>
                refine ⟨k + 1, bs ++ [b], hlt, by go_num, ?_, by simp; omega, ?_, ⟨some ⟨g2, 0, none⟩, cap2, by rw [List.length_append]; rfl⟩, hb6⟩
                · rw [HT.out]; exact HBA.out.snoc HBK.out.1 HBK.out.2
                · have h := HO2.out
                  rw [List.flatMap_append, List.length_append]
                  exact h
              case measure => simp [intOf]; omega
        · have q3 : decide (k < ls.length) = false := by simp; omega
          have HK : Hid (BoundsAre (sepAt 32 s.data.toList) bs) := by
            have h := HBA.out
            rw [List.take_of_length_le (by omega)] at h
            rw [← HL.out] at h; exact h
          clear hlt
          go_wp2_with fail
          go_ret2
          exact ⟨_, bs, 0, rfl, Bnds.of_owns HO.out, ⟨_, _, rfl⟩, .inl ⟨rfl, range_yes HK.out hb20⟩, below_then hb2 hb, (FreshV.of_owns HO.out).mono hb2.size⟩
end Go.Proofs.YtjjpngdbbjeaiaaGreatDoor
