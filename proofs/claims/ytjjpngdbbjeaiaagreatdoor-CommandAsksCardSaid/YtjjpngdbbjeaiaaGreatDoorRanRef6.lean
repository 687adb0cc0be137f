/- The reference of layer 5: Parse: a walk. -/
import Derived.Test.YtjjpngdbbjeaiaaGreatDoorRanRef2
import Derived.Test.YtjjpngdbbjeaiaaGreatDoorRanRef4
import Derived.Test.YtjjpngdbbjeaiaaGreatDoorRanRef5
import Derived.Test.YtjjpngdbbjeaiaaGreatDoorRanProg5
import Derived.Test.YtjjpngdbbjeaiaaGreatDoorSemRefB
namespace Go.Proofs.YtjjpngdbbjeaiaaGreatDoor
open Go.RowKit
theorem op_at {t : List UInt8} {b : Bnd} {j : Nat} (hb : b.ok = true) (hs : b.show = t) (ho : b.op = (j : Int)) :
    t.take (signL (j : Int)).length = signL (j : Int) ∧ (signL (j : Int)).length ≤ t.length ∧ V4.IsShow b.v (t.drop (signL (j : Int)).length) := by
  unfold Bnd.ok at hb
  rw [Bool.and_eq_true] at hb
  subst hs
  rw [← ho]
  unfold Bnd.show
  refine ⟨by simp, by simp, hb.2, by simp⟩
theorem op_next {t : List UInt8} {j : Nat} (h : ∀ b : Bnd, b.ok = true → b.show = t → (j : Int) ≤ b.op) (hn : ∀ b : Bnd, b.ok = true → b.show = t → b.op ≠ (j : Int)) : ∀ b : Bnd, b.ok = true → b.show = t → ((j + 1 : Nat) : Int) ≤ b.op := by
  intro b hb hs
  have h1 := h b hb hs
  have h2 := hn b hb hs
  omega
theorem op_none {t : List UInt8} {j : Nat} (h : ∀ b : Bnd, b.ok = true → b.show = t → (j : Int) ≤ b.op) (hj : 6 ≤ j) : ∀ b : Bnd, b.ok = true → b.show ≠ t := by
  intro b hb hs
  have h1 := h b hb hs
  unfold Bnd.ok opOk at hb
  simp at hb
  omega
theorem op_show {t : List UInt8} {j : Nat} {a b c : Int} {p : List UInt8} (h1 : 1 ≤ j) (h2 : j < 6) (hs : t.take (signL (j : Int)).length = signL (j : Int)) (hv : IsShow a b c p (t.drop (signL (j : Int)).length)) :
    (⟨(j : Int), ⟨a, b, c, S p⟩⟩ : Bnd).ok = true ∧ (⟨(j : Int), ⟨a, b, c, S p⟩⟩ : Bnd).show = t := by
  constructor
  · unfold Bnd.ok opOk V4.ok
    have e1 : decide ((1 : Int) ≤ (j : Int)) = true := by simp; omega
    have e2 : decide ((j : Int) ≤ 5) = true := by simp; omega
    show (decide ((1 : Int) ≤ (j : Int)) && decide ((j : Int) ≤ 5) && _) = true
    rw [e1, e2]
    exact hv.1
  · unfold Bnd.show V4.show
    have := hv.2
    refine (congrArg (signL (j : Int) ++ ·) this).trans ?_
    show signL (j : Int) ++ t.drop (signL (j : Int)).length = t
    conv => lhs; arg 1; rw [← hs]
    exact List.take_append_drop _ _
theorem rparse_long3 {l : List UInt8} (h1 : l ≠ [42]) (h : 3000 < l.length) : RParseIs l [] 50 := by
  refine .inr ⟨rfl, rfl, fun bs hb => ?_⟩
  by_cases h2 : l.head? = some 94
  · rcases hb with ⟨g1, _⟩ | ⟨r, v, g1, g2, _⟩ | ⟨g1, g2, g3⟩
    · exact h1 g1
    · have hbd := verOk_bounds g2.1
      have := showL_len (a := v.a.toNat) (b := v.b.toNat) (c := v.c.toNat) (p := v.p.data.toList) (by omega) (by omega) (by omega) (by omega)
      have e : v.show = r := g2.2
      unfold V4.show at e
      rw [e] at this
      rw [g1, List.length_cons] at h
      omega
    · obtain ⟨x, t, e, hx⟩ := showB_head g1 (rangeOk_all g2).2
      rw [g3] at e; rw [e] at h2; simp at h2; rw [h2] at hx; exact absurd hx (by decide)
  · have := range_len h1 h2 hb; omega
theorem bounds_err {ps : List (List UInt8)} {bs : List Bnd} (h : BoundsAre ps bs) : (rangeErr bs = 0 ∧ bs.length ≤ 20) ∨ (rangeErr bs = 50 ∧ 20 < bs.length) := by
  rw [BoundsAre.iff] at h
  unfold rangeErr rangeOk
  rw [List.all_eq_true.2 h.2]
  by_cases hl : bs.length ≤ 20
  · left; rw [decide_eq_true hl]; exact ⟨rfl, hl⟩
  · right; rw [decide_eq_false hl]; exact ⟨rfl, by omega⟩
theorem bounds_sz {ps : List (List UInt8)} {bs : List Bnd} (h : BoundsAre ps bs) : ∀ x ∈ bs, x.v.p.size ≤ 9223372036854775807 := by
  intro x hx
  rw [BoundsAre.iff] at h
  have h1 := h.2 x hx
  unfold Bnd.ok at h1
  rw [Bool.and_eq_true] at h1
  have := verOk_bounds h1.2
  rw [Lib.size_eq]; omega
def QRel (ls : List (List UInt8)) (w2 : World) (v i : Value) (wr : World) : Prop :=
  ∃ (k : Nat) (bs : List Bnd), k ≤ ls.length ∧ i = .int .i64 (k : Int) ∧ BoundsAre (ls.take k) bs ∧ wr.ownsRow w2.heap.size 147 5 v bs.length (bs.flatMap Bnd.cells) ∧ (∃ a cap, v = .slice a bs.length cap) ∧ Below w2.heap.size w2 wr
def IRel (t : List UInt8) (bs : List Bnd) (w2 : World) (v fnd op : Value) (wr : World) : Prop :=
  ∃ (j : Nat) (f : Bool) (xs : List Bnd), 1 ≤ j ∧ j ≤ 6 ∧ op = .int .i64 (j : Int) ∧ fnd = .bool f ∧ wr.ownsRow w2.heap.size 147 5 v xs.length (xs.flatMap Bnd.cells) ∧ (∃ a cap, v = .slice a xs.length cap) ∧ Below w2.heap.size w2 wr ∧
    ((f = false ∧ xs = bs ∧ ∀ b : Bnd, b.ok = true → b.show = t → (j : Int) ≤ b.op) ∨ (f = true ∧ ∃ b : Bnd, b.ok = true ∧ b.show = t ∧ xs = bs ++ [b]))
set_option maxRecDepth 100000 in
set_option maxHeartbeats 16000000 in
theorem refRParse_any (s : ByteArray) (w : World) (hs : s.size ≤ 100000) :
    Calls Tryz.prog 58 #[.string s] w (RParseAs s.data.toList w) := by
  have HI := Lib.hid (info_parts info_bound)
  by_cases hstar : s.data.toList = [42]
  · have q1 : (s.toList == [42]) = true := by rw [Lib.toList_data, hstar]; decide
    have H := Lib.hid hstar
    clear hstar
    go_enter Tryz.func58, Tryz.ntmps58
    go_wp2_with fail
    go_ret2
    exact rparse_star H.out (Below.refl _ _)
  have q1 : (s.toList == [42]) = false := by rw [Lib.toList_data]; exact beq_eq_false_iff_ne.2 hstar
  have HS := Lib.hid hstar
  clear hstar
  by_cases hbig : 3000 < s.size
  · have q2 : decide (3000 < (s.size : Int)) = true := by simp; omega
    have HO : Hid (RParseIs s.data.toList [] 50) := rparse_long3 HS.out (by rw [← Lib.size_eq]; exact hbig)
    clear hbig
    go_enter Tryz.func58, Tryz.ntmps58
    go_wp2_with fail
    go_ret2
    exact rparse_err HO.out (Below.refl _ _)
  have q2 : decide (3000 < (s.size : Int)) = false := by simp; omega
  have hsm : s.size ≤ 3000 := by omega
  clear hbig hs
  have hcase : (∃ h : 0 < s.size, s[0] = 94) ∨ (∃ h : 0 < s.size, s[0] ≠ 94) ∨ s.size = 0 := by
    by_cases h : 0 < s.size
    · by_cases h2 : s[0] = 94
      · exact .inl ⟨h, h2⟩
      · exact .inr (.inl ⟨h, h2⟩)
    · exact .inr (.inr (by omega))
  rcases hcase with ⟨hsz, hx⟩ | hcase
  · have hsi : (0 : Int) < (s.size : Int) := by omega
    have hs1 : (1 : Int) ≤ (s.size : Int) := by omega
    have hem : s.toList.isEmpty = false := by
      rw [Lib.toList_data, byte_head s hsz]; rfl
    have HB := Lib.hid (byte_head s hsz)
    obtain ⟨x, hxe⟩ : ∃ x, s[0] = x := ⟨_, rfl⟩
    rw [hxe] at hx HB
    have qx : ((x.toNat : Int) == 94) = true := by rw [hx]; decide
    rw [hx] at HB
    obtain ⟨D, hD⟩ : ∃ D, s.extract 1 s.size = D := ⟨_, rfl⟩
    have HD : Hid (D.data.toList = s.data.toList.drop 1) := by show _ = _; rw [← hD, sub_end]
    have HDs : Hid (D.size ≤ 100000) := by show _ ≤ _; rw [Lib.size_eq, HD.out, List.length_drop, ← Lib.size_eq]; omega
    clear hx
    go_enter Tryz.func58, Tryz.ntmps58
    go_wp2_with fail
    refine (refParse_any D _ (by have := HDs.out; omega)).mono ?_
    rintro e w1 ⟨a, b, c, p, er, rfl, hpi, hb1⟩
    rw [HD.out] at hpi
    have HPI := Lib.hid hpi
    clear hpi
    by_cases he0 : er = 0
    · have qe : (er != 0) = false := by simpa using he0
      have HV : Hid (V4.IsShow ⟨a, b, c, S p⟩ (s.data.toList.drop 1)) := by
        rcases HPI.out with ⟨_, h⟩ | ⟨h, _⟩
        · exact ⟨h.1, h.2⟩
        · rw [he0] at h; cases h
      have HPs : Hid ((S p).size ≤ 9223372036854775807) := by
        have := (verOk_bounds HV.out.1)
        dsimp only at this
        show _ ≤ _
        rw [Lib.size_eq]
        omega
      clear he0
      go_wp2_with fail
      refine (rnear_new ⟨a, b, c, S p⟩ _ HPs.out).mono ?_
      rintro e w2 ⟨y, rfl, hy, ⟨ya, ycap, rfl⟩, hb2, hf2⟩
      have hf2 := hf2.mono (B' := w.heap.size) (by have := hb1.size; simp; omega)
      have hb4 := below_then hb1 (below_first (box_of hb2))
      clear hb2
      go_wp2_with fail
      go_ret2
      exact ⟨_, _, 0, rfl, hy, ⟨ya, ycap, rfl⟩, rparse_near HB.out HV.out, hb4, hf2⟩
    · have qe : (er != 0) = true := by simpa using he0
      have HV : Hid (RParseIs s.data.toList [] 50) := by
        rcases HPI.out with ⟨h, _⟩ | ⟨_, _, _, _, _, h⟩
        · exact absurd h he0
        · exact rparse_nonear HB.out h
      clear he0
      have hb4 := hb1.alloc hb1.size (.cells #[.int .i64 a, .int .i64 b, .int .i64 c, .string (S p)] 23)
      go_wp2_with fail
      go_ret2
      exact rparse_err HV.out hb4
  have HH : Hid (s.data.toList.head? ≠ some 94) := by
    rcases hcase with ⟨h, h2⟩ | h
    · show _ ≠ _
      rw [byte_head s h]; simpa using h2
    · have : s.data.toList = [] := by rw [Lib.size_eq] at h; exact List.eq_nil_of_length_eq_zero h
      show _ ≠ _
      rw [this]; simp
  obtain ⟨ls, hls⟩ : ∃ ls, sepAt 32 s.data.toList = ls := ⟨_, rfl⟩
  have HL := Lib.hid hls
  have hl0 : 0 < ls.length := by rw [← hls]; exact List.length_pos_iff.2 (sepAt_ne _ _)
  have HLs : Hid (∀ p ∈ ls, p.length ≤ s.size) := by
    intro p hp
    rw [← hls] at hp
    have := sepAt_size _ _ p hp
    rw [← Lib.size_eq] at this; exact this
  have hl1 : ls.length ≤ s.size + 1 := by
    rw [← hls, sepAt_count, Lib.size_eq]; have := List.count_le_length (a := (32 : UInt8)) (l := s.data.toList); omega
  have hlm : ls.length ≤ 3001 := by omega
  clear hls hl1
  rcases hcase with ⟨hsz, hx⟩ | he
  · have hsi : (0 : Int) < (s.size : Int) := by omega
    have hem : s.toList.isEmpty = false := by
      rw [Lib.toList_data, byte_head s hsz]; rfl
    obtain ⟨x, hxe⟩ : ∃ x, s[0] = x := ⟨_, rfl⟩
    rw [hxe] at hx
    have qx : ((x.toNat : Int) == 94) = false := by
      rw [beq_eq_false_iff_ne]; intro h; exact hx (UInt8.toNat_inj.1 (by show x.toNat = 94; omega))
    clear hx
    go_enter Tryz.func58, Tryz.ntmps58
    go_wp2_with fail
    refine (refWords_any s _ (by omega)).mono ?_
    rintro e w2 ⟨v, n, rfl, hv, hb2⟩
    rw [HL.out] at hv
    obtain ⟨bx, ox, capx, rfl, hbx, hcx⟩ := (Strs.of_owns hv).full hl0
    have HCX := Lib.hid hcx
    clear hcx hv
    go_wp2_with fail
    go_loopw [6, 8, 9, 10, 11, 12, 13] (fun v i _ _ _ _ _ wr => QRel ls w2 v i wr) (fun _ i _ _ _ _ _ _ => ls.length - (intOf i).toNat)
    case atStart => exact ⟨0, [], Nat.zero_le _, rfl, trivial, World.ownsRow_nil _ _ _ _, ⟨_, _, rfl⟩, Below.refl _ _⟩
    case round =>
      obtain ⟨k, bs, hk, rfl, hba, hown, ⟨va, vcap, rfl⟩, hb⟩ := hrel
      have HBA := Lib.hid hba
      have HO := Lib.hid hown
      clear hba hown
      by_cases hlt : k < ls.length
      · have i0 : (0 : Int) ≤ (k : Int) := by omega
        have i1 : (k : Int) < (ls.length : Int) := by omega
        have HT := Lib.hid (List.take_succ_eq_append_getElem hlt)
        have HPz := Lib.hid (HLs.out _ (List.getElem_mem hlt))
        have HK : Hid (∃ h : k < (sepAt 32 s.data.toList).length, (sepAt 32 s.data.toList)[k] = ls[k]) := by
          have h := HL.out
          subst h
          exact ⟨hlt, rfl⟩
        have hbl : bs.length = k := by have h := HBA.out.len; rw [List.length_take] at h; omega
        have hbz : bs.length ≤ 3000 := by omega
        have HBl := Lib.hid hbl
        have HCk := Lib.hid (HCX.out k hlt)
        obtain ⟨t, ht⟩ : ∃ t, ls[k] = t := ⟨_, rfl⟩
        rw [ht] at HCk HT HPz HK
        clear ht hbl
        obtain ⟨A, hA⟩ : ∃ A, S t = A := ⟨_, rfl⟩
        rw [hA] at HCk
        have HAt : Hid (A.data.toList = t) := by show _ = _; rw [← hA]; rfl
        have HAs : Hid (A.size ≤ 3000) := by have := HPz.out; show _ ≤ _; rw [← hA, S_size]; omega
        clear hA
        go_wp2_with fail
        obtain ⟨wo, hwo⟩ : ∃ wo : World, wo = wr := ⟨_, rfl⟩
        subst hwo
        go_loopw [6, 9, 10, 11, 12, 13] (fun v f o _ _ _ wi => IRel t bs w2 v f o wi) (fun _ f o _ _ _ _ => 7 - (intOf o).toNat)
        case atStart => exact ⟨1, false, bs, by omega, by omega, rfl, rfl, HO.out, ⟨va, vcap, rfl⟩, hb, .inl ⟨rfl, rfl, fun b hb hs => by unfold Bnd.ok opOk at hb; simp at hb; omega⟩⟩
        case round =>
          obtain ⟨j, f, xs, hj1, hj6, rfl, rfl, hown, ⟨va, vcap, rfl⟩, hbi, hfn⟩ := hrel
          have HO2 := Lib.hid hown
          clear hown
          rcases hfn with ⟨rfl, rfl, hno⟩ | ⟨rfl, b, hbo, hbs, rfl⟩
          · have HN := Lib.hid hno
            clear hno
            by_cases hj : j < 6
            · have q5 : decide ((j : Int) ≤ 5) = true := by simp; omega
              obtain ⟨G, hG⟩ : ∃ G, S (signL (j : Int)) = G := ⟨_, rfl⟩
              have HG := Lib.hid hG
              have hGz : G.size ≤ 2 := by rw [← hG, S_size]; exact signL_len _
              have HGl : Hid (G.data.toList = signL (j : Int) ∧ G.size = (signL (j : Int)).length) := by show _ ∧ _; rw [← hG]; exact ⟨rfl, S_size _⟩
              clear hG
              go_wp2_with fail
              refine (rsign_as (j : Int) G HG.out _).mono ?_
              rintro e w3 ⟨rfl, hb3⟩
              have hbx3 := hbi.trans (hb3.mono hbi.size)
              have HOx := Lib.hid (owns_below HO2.out hb3)
              have c0 := (hbx3.cell (p := ⟨bx, ox + k, none⟩) hbx).trans HCk.out
              clear hb3
              by_cases hsh : A.size < G.size
              · have q6 : decide ((A.size : Int) < (G.size : Int)) = true := by simp; omega
                have q6' : decide (A.size < G.size) = true := decide_eq_true hsh
                have HNX : Hid (∀ b : Bnd, b.ok = true → b.show = t → ((j + 1 : Nat) : Int) ≤ b.op) := by
                  refine op_next HN.out (fun b hb hs ho => ?_)
                  have h := (op_at hb hs ho).2.1
                  rw [← HGl.out.2, ← HAt.out, ← Lib.size_eq] at h
                  omega
                clear hsh
                go_wp2_with fail
                go_roundw
                case rel => exact ⟨j + 1, false, xs, by omega, by omega, by go_num, rfl, HOx.out, ⟨va, vcap, rfl⟩, hbx3, .inl ⟨rfl, rfl, HNX.out⟩⟩
                case measure => simp [intOf]; omega
              have q6 : decide ((A.size : Int) < (G.size : Int)) = false := by simp; omega
              have q6' : decide (A.size < G.size) = false := decide_eq_false hsh
              have i4 : (0 : Int) ≤ (G.size : Int) := by omega
              have i5 : (G.size : Int) ≤ (A.size : Int) := by omega
              obtain ⟨P, hP⟩ : ∃ P, A.extract 0 G.size = P := ⟨_, rfl⟩
              have HPd : Hid (P.data.toList = t.take (signL (j : Int)).length) := by show _ = _; rw [← hP, sub_head, HAt.out, HGl.out.2]
              obtain ⟨D, hD⟩ : ∃ D, A.extract G.size A.size = D := ⟨_, rfl⟩
              have HDd : Hid (D.data.toList = t.drop (signL (j : Int)).length) := by show _ = _; rw [← hD, sub_end, HAt.out, HGl.out.2]
              have HDs : Hid (D.size ≤ 3000) := by show _ ≤ _; rw [Lib.size_eq, HDd.out, List.length_drop, ← HAt.out, ← Lib.size_eq]; have := HAs.out; omega
              clear hsh
              by_cases heq : P.toList = G.toList
              case neg =>
                have t1 : (P.toList == G.toList) = false := by simpa using heq
                have t2 : (P.toList != G.toList) = true := by simpa using heq
                have HNX : Hid (∀ b : Bnd, b.ok = true → b.show = t → ((j + 1 : Nat) : Int) ≤ b.op) := by
                  refine op_next HN.out (fun b hb hs ho => heq ?_)
                  have h := (op_at hb hs ho).1
                  rw [Lib.toList_data, Lib.toList_data, HPd.out, HGl.out.1, h]
                clear heq
                go_wp2_with fail
                go_roundw
                case rel => exact ⟨j + 1, false, xs, by omega, by omega, by go_num, rfl, HOx.out, ⟨va, vcap, rfl⟩, hbx3, .inl ⟨rfl, rfl, HNX.out⟩⟩
                case measure => simp [intOf]; omega
              have t1 : (P.toList == G.toList) = true := by simpa using heq
              have t2 : (P.toList != G.toList) = false := by simpa using heq
              have HE : Hid (t.take (signL (j : Int)).length = signL (j : Int)) := by
                show _ = _
                rw [Lib.toList_data, Lib.toList_data, HPd.out, HGl.out.1] at heq
                exact heq
              clear heq
              go_wp2_with fail
              refine (refParse_any D _ (by have := HDs.out; omega)).mono ?_
              rintro e w4 ⟨a, b, c, p, er, rfl, hpi, hb4⟩
              rw [HDd.out] at hpi
              have HPI := Lib.hid hpi
              have hb5 := hbx3.trans (hb4.mono hbx3.size)
              have HO4 := Lib.hid (owns_below HOx.out hb4)
              have hB4 := hb5.size
              clear hpi hb4
              by_cases he0 : er = 0
              · have qe : (er == 0) = true := by simpa using he0
                have HV : Hid (IsShow a b c p (t.drop (signL (j : Int)).length)) := by
                  rcases HPI.out with ⟨_, h⟩ | ⟨h, _⟩
                  · exact h
                  · rw [he0] at h; cases h
                have HBK := Lib.hid (op_show hj1 hj HE.out HV.out)
                obtain ⟨i0', hi, hz0, hz1, hz2⟩ := HI.out
                clear he0
                go_wp2_with (at_builtin; go_must (refine wpList_append_own _ rfl _ _ 96 rfl w2.heap.size 147 i0' (.agg #[.int .i64 0, .int .i64 0, .int .i64 0, .int .i64 0, .string ⟨#[]⟩]) 5 48 Tryz.underlying96 hi hz0 hz1 hz2 rfl (by decide) _ _ _ rfl ((HO4.out.alloc _).alloc _) ⟨_, 0, none⟩ 1 1 [.int .i64 (j : Int), .int .i64 a, .int .i64 b, .int .i64 c, .string (S p)] rfl rfl ?c1 ?c2 ?c3 ?c4 ?c5 ?_))
                case c1 => exact cells5_at _ _ (by simp) _ _ _ _ _ _
                case c2 => intro u hu; simp at hu; rcases hu with rfl | rfl | rfl | rfl | rfl <;> rfl
                case c3 => unfold maxLen; omega
                case c4 => omega
                case c5 => simp; omega
                intro v' w5 hown2 hg2 _
                have hb6 := below_grown ((hb5.alloc hB4 _).alloc (by simp; omega) _) ((HO4.out.alloc _).alloc _) hg2 (by simp; omega)
                obtain ⟨g2, cap2, hv2⟩ := Joins.ownsRow_form hown2 (by omega)
                subst hv2
                have HO5 := Lib.hid hown2
                clear hg2 hown2
                go_wp2
                go_roundw
                case rel =>
                  refine ⟨j + 1, true, xs ++ [⟨(j : Int), ⟨a, b, c, S p⟩⟩], by omega, by omega, by go_num, rfl, ?_, ⟨some ⟨g2, 0, none⟩, cap2, by rw [List.length_append]; rfl⟩, hb6, .inr ⟨rfl, _, HBK.out.1, HBK.out.2, rfl⟩⟩
                  have h := HO5.out
                  rw [List.flatMap_append, List.length_append]
                  exact h
                case measure => simp [intOf]; omega
              · have qe : (er == 0) = false := by simpa using he0
                have HNX : Hid (∀ b : Bnd, b.ok = true → b.show = t → ((j + 1 : Nat) : Int) ≤ b.op) := by
                  refine op_next HN.out (fun b hb hs ho => ?_)
                  have h := (op_at hb hs ho).2.2
                  rcases HPI.out with ⟨h2, _⟩ | ⟨_, _, _, _, _, h2⟩
                  · exact he0 h2
                  · exact h2 _ _ _ _ ⟨h.1, h.2⟩
                have HOz := Lib.hid (HO4.out.alloc (.cells #[.int .i64 a, .int .i64 b, .int .i64 c, .string (S p)] 23))
                have hb6 := hb5.alloc hB4 (.cells #[.int .i64 a, .int .i64 b, .int .i64 c, .string (S p)] 23)
                clear he0
                go_wp2_with fail
                go_roundw
                case rel => exact ⟨j + 1, false, xs, by omega, by omega, by go_num, rfl, HOz.out, ⟨va, vcap, rfl⟩, hb6, .inl ⟨rfl, rfl, HNX.out⟩⟩
                case measure => simp [intOf]; omega
            · have q5 : decide ((j : Int) ≤ 5) = false := by simp; omega
              have HF : Hid (RParseIs s.data.toList [] 50) := by
                obtain ⟨h1, h2⟩ := HK.out
                refine range_no HS.out HH.out k h1 (.inr ?_)
                rw [h2]
                exact op_none HN.out (by omega)
              clear hj
              go_wp2_with fail
              go_ret2
              exact rparse_err HF.out (below_then hb2 hbi)
          · have HBK : Hid (b.ok = true ∧ b.show = t) := ⟨hbo, hbs⟩
            clear hbo hbs
            obtain ⟨z, q5⟩ : ∃ z, decide ((j : Int) ≤ 5) = z := ⟨_, rfl⟩
            cases z
            · go_wp2_with fail
              go_roundw
              case rel =>
                refine ⟨k + 1, bs ++ [b], hlt, by go_num, ?_, HO2.out, ⟨va, vcap, rfl⟩, hbi⟩
                rw [HT.out]; exact HBA.out.snoc HBK.out.1 HBK.out.2
              case measure => simp [intOf]; omega
            · go_wp2_with fail
              go_roundw
              case rel =>
                refine ⟨k + 1, bs ++ [b], hlt, by go_num, ?_, HO2.out, ⟨va, vcap, rfl⟩, hbi⟩
                rw [HT.out]; exact HBA.out.snoc HBK.out.1 HBK.out.2
              case measure => simp [intOf]; omega
      · have q3 : decide (k < ls.length) = false := by simp; omega
        have hK : BoundsAre (sepAt 32 s.data.toList) bs := by
          have h := HBA.out
          rw [List.take_of_length_le (by omega)] at h
          rw [← HL.out] at h; exact h
        have hkl : k = ls.length := by omega
        have HK := Lib.hid hK
        have HKl : Hid (bs.length = ls.length) := by show _ = _; have h := hK.len; rw [HL.out] at h; exact h.symm
        clear hlt hK hkl
        rcases bounds_err HK.out with ⟨h0, h20⟩ | ⟨h50, h20⟩
        · go_wp2_with fail
          refine (rrcheck_as _ bs 0 h0 _ (Bnds.of_owns HO.out) ⟨_, _, rfl⟩ (bounds_sz HK.out)).mono ?_
          rintro e w3 ⟨rfl, hb3⟩
          have HOz := Lib.hid ((Bnds.of_owns HO.out).below hb3 (Nat.le_refl _))
          have hb4 := below_then (below_then hb2 hb) hb3
          go_wp2_with fail
          go_ret2
          exact ⟨_, bs, 0, rfl, HOz.out, ⟨_, _, rfl⟩, .inl ⟨rfl, range_yes HK.out h20⟩, hb4, (FreshV.of_owns HO.out).mono hb2.size⟩
        · have HF : Hid (RParseIs s.data.toList [] 50) := by
            refine range_no HS.out HH.out 20 ?_ (.inl (Nat.le_refl _))
            rw [HL.out]
            have := HKl.out
            omega
          go_wp2_with fail
          refine (rrcheck_as _ bs 50 h50 _ (Bnds.of_owns HO.out) ⟨_, _, rfl⟩ (bounds_sz HK.out)).mono ?_
          rintro e w3 ⟨rfl, hb3⟩
          have hb4 := below_then (below_then hb2 hb) hb3
          clear h20
          go_wp2_with fail
          go_ret2
          exact rparse_err HF.out hb4
  · have hem : s.toList.isEmpty = true := by
      rw [Lib.toList_data, List.isEmpty_iff]; rw [Lib.size_eq] at he; exact List.eq_nil_of_length_eq_zero he
    have hz : s.size ≤ 3000 := by omega
    clear he
    go_enter Tryz.func58, Tryz.ntmps58
    go_wp2_with fail
    refine (refWords_any s _ (by omega)).mono ?_
    rintro e w2 ⟨v, n, rfl, hv, hb2⟩
    rw [HL.out] at hv
    obtain ⟨bx, ox, capx, rfl, hbx, hcx⟩ := (Strs.of_owns hv).full hl0
    have HCX := Lib.hid hcx
    clear hcx hv
    go_wp2_with fail
    go_loopw [6, 8, 9, 10, 11, 12, 13] (fun v i _ _ _ _ _ wr => QRel ls w2 v i wr) (fun _ i _ _ _ _ _ _ => ls.length - (intOf i).toNat)
    case atStart => exact ⟨0, [], Nat.zero_le _, rfl, trivial, World.ownsRow_nil _ _ _ _, ⟨_, _, rfl⟩, Below.refl _ _⟩
    case round =>
      obtain ⟨k, bs, hk, rfl, hba, hown, ⟨va, vcap, rfl⟩, hb⟩ := hrel
      have HBA := Lib.hid hba
      have HO := Lib.hid hown
      clear hba hown
      by_cases hlt : k < ls.length
      · have i0 : (0 : Int) ≤ (k : Int) := by omega
        have i1 : (k : Int) < (ls.length : Int) := by omega
        have HT := Lib.hid (List.take_succ_eq_append_getElem hlt)
        have HPz := Lib.hid (HLs.out _ (List.getElem_mem hlt))
        have HK : Hid (∃ h : k < (sepAt 32 s.data.toList).length, (sepAt 32 s.data.toList)[k] = ls[k]) := by
          have h := HL.out
          subst h
          exact ⟨hlt, rfl⟩
        have hbl : bs.length = k := by have h := HBA.out.len; rw [List.length_take] at h; omega
        have hbz : bs.length ≤ 3000 := by omega
        have HBl := Lib.hid hbl
        have HCk := Lib.hid (HCX.out k hlt)
        obtain ⟨t, ht⟩ : ∃ t, ls[k] = t := ⟨_, rfl⟩
        rw [ht] at HCk HT HPz HK
        clear ht hbl
        obtain ⟨A, hA⟩ : ∃ A, S t = A := ⟨_, rfl⟩
        rw [hA] at HCk
        have HAt : Hid (A.data.toList = t) := by show _ = _; rw [← hA]; rfl
        have HAs : Hid (A.size ≤ 3000) := by have := HPz.out; show _ ≤ _; rw [← hA, S_size]; omega
        clear hA
        go_wp2_with fail
        obtain ⟨wo, hwo⟩ : ∃ wo : World, wo = wr := ⟨_, rfl⟩
        subst hwo
        go_loopw [6, 9, 10, 11, 12, 13] (fun v f o _ _ _ wi => IRel t bs w2 v f o wi) (fun _ f o _ _ _ _ => 7 - (intOf o).toNat)
        case atStart => exact ⟨1, false, bs, by omega, by omega, rfl, rfl, HO.out, ⟨va, vcap, rfl⟩, hb, .inl ⟨rfl, rfl, fun b hb hs => by unfold Bnd.ok opOk at hb; simp at hb; omega⟩⟩
        case round =>
          obtain ⟨j, f, xs, hj1, hj6, rfl, rfl, hown, ⟨va, vcap, rfl⟩, hbi, hfn⟩ := hrel
          have HO2 := Lib.hid hown
          clear hown
          rcases hfn with ⟨rfl, rfl, hno⟩ | ⟨rfl, b, hbo, hbs, rfl⟩
          · have HN := Lib.hid hno
            clear hno
            by_cases hj : j < 6
            · have q5 : decide ((j : Int) ≤ 5) = true := by simp; omega
              obtain ⟨G, hG⟩ : ∃ G, S (signL (j : Int)) = G := ⟨_, rfl⟩
              have HG := Lib.hid hG
              have hGz : G.size ≤ 2 := by rw [← hG, S_size]; exact signL_len _
              have HGl : Hid (G.data.toList = signL (j : Int) ∧ G.size = (signL (j : Int)).length) := by show _ ∧ _; rw [← hG]; exact ⟨rfl, S_size _⟩
              clear hG
              go_wp2_with fail
              refine (rsign_as (j : Int) G HG.out _).mono ?_
              rintro e w3 ⟨rfl, hb3⟩
              have hbx3 := hbi.trans (hb3.mono hbi.size)
              have HOx := Lib.hid (owns_below HO2.out hb3)
              have c0 := (hbx3.cell (p := ⟨bx, ox + k, none⟩) hbx).trans HCk.out
              clear hb3
              by_cases hsh : A.size < G.size
              · have q6 : decide ((A.size : Int) < (G.size : Int)) = true := by simp; omega
                have q6' : decide (A.size < G.size) = true := decide_eq_true hsh
                have HNX : Hid (∀ b : Bnd, b.ok = true → b.show = t → ((j + 1 : Nat) : Int) ≤ b.op) := by
                  refine op_next HN.out (fun b hb hs ho => ?_)
                  have h := (op_at hb hs ho).2.1
                  rw [← HGl.out.2, ← HAt.out, ← Lib.size_eq] at h
                  omega
                clear hsh
                go_wp2_with fail
                go_roundw
                case rel => exact ⟨j + 1, false, xs, by omega, by omega, by go_num, rfl, HOx.out, ⟨va, vcap, rfl⟩, hbx3, .inl ⟨rfl, rfl, HNX.out⟩⟩
                case measure => simp [intOf]; omega
              have q6 : decide ((A.size : Int) < (G.size : Int)) = false := by simp; omega
              have q6' : decide (A.size < G.size) = false := decide_eq_false hsh
              have i4 : (0 : Int) ≤ (G.size : Int) := by omega
              have i5 : (G.size : Int) ≤ (A.size : Int) := by omega
              obtain ⟨P, hP⟩ : ∃ P, A.extract 0 G.size = P := ⟨_, rfl⟩
              have HPd : Hid (P.data.toList = t.take (signL (j : Int)).length) := by show _ = _; rw [← hP, sub_head, HAt.out, HGl.out.2]
              obtain ⟨D, hD⟩ : ∃ D, A.extract G.size A.size = D := ⟨_, rfl⟩
              have HDd : Hid (D.data.toList = t.drop (signL (j : Int)).length) := by show _ = _; rw [← hD, sub_end, HAt.out, HGl.out.2]
              have HDs : Hid (D.size ≤ 3000) := by show _ ≤ _; rw [Lib.size_eq, HDd.out, List.length_drop, ← HAt.out, ← Lib.size_eq]; have := HAs.out; omega
              clear hsh
              by_cases heq : P.toList = G.toList
              case neg =>
                have t1 : (P.toList == G.toList) = false := by simpa using heq
                have t2 : (P.toList != G.toList) = true := by simpa using heq
                have HNX : Hid (∀ b : Bnd, b.ok = true → b.show = t → ((j + 1 : Nat) : Int) ≤ b.op) := by
                  refine op_next HN.out (fun b hb hs ho => heq ?_)
                  have h := (op_at hb hs ho).1
                  rw [Lib.toList_data, Lib.toList_data, HPd.out, HGl.out.1, h]
                clear heq
                go_wp2_with fail
                go_roundw
                case rel => exact ⟨j + 1, false, xs, by omega, by omega, by go_num, rfl, HOx.out, ⟨va, vcap, rfl⟩, hbx3, .inl ⟨rfl, rfl, HNX.out⟩⟩
                case measure => simp [intOf]; omega
              have t1 : (P.toList == G.toList) = true := by simpa using heq
              have t2 : (P.toList != G.toList) = false := by simpa using heq
              have HE : Hid (t.take (signL (j : Int)).length = signL (j : Int)) := by
                show _ = _
                rw [Lib.toList_data, Lib.toList_data, HPd.out, HGl.out.1] at heq
                exact heq
              clear heq
              go_wp2_with fail
              refine (refParse_any D _ (by have := HDs.out; omega)).mono ?_
              rintro e w4 ⟨a, b, c, p, er, rfl, hpi, hb4⟩
              rw [HDd.out] at hpi
              have HPI := Lib.hid hpi
              have hb5 := hbx3.trans (hb4.mono hbx3.size)
              have HO4 := Lib.hid (owns_below HOx.out hb4)
              have hB4 := hb5.size
              clear hpi hb4
              by_cases he0 : er = 0
              · have qe : (er == 0) = true := by simpa using he0
                have HV : Hid (IsShow a b c p (t.drop (signL (j : Int)).length)) := by
                  rcases HPI.out with ⟨_, h⟩ | ⟨h, _⟩
                  · exact h
                  · rw [he0] at h; cases h
                have HBK := Lib.hid (op_show hj1 hj HE.out HV.out)
                obtain ⟨i0', hi, hz0, hz1, hz2⟩ := HI.out
                clear he0
                go_wp2_with (at_builtin; go_must (refine wpList_append_own _ rfl _ _ 96 rfl w2.heap.size 147 i0' (.agg #[.int .i64 0, .int .i64 0, .int .i64 0, .int .i64 0, .string ⟨#[]⟩]) 5 48 Tryz.underlying96 hi hz0 hz1 hz2 rfl (by decide) _ _ _ rfl ((HO4.out.alloc _).alloc _) ⟨_, 0, none⟩ 1 1 [.int .i64 (j : Int), .int .i64 a, .int .i64 b, .int .i64 c, .string (S p)] rfl rfl ?c1 ?c2 ?c3 ?c4 ?c5 ?_))
                case c1 => exact cells5_at _ _ (by simp) _ _ _ _ _ _
                case c2 => intro u hu; simp at hu; rcases hu with rfl | rfl | rfl | rfl | rfl <;> rfl
                case c3 => unfold maxLen; omega
                case c4 => omega
                case c5 => simp; omega
                intro v' w5 hown2 hg2 _
                have hb6 := below_grown ((hb5.alloc hB4 _).alloc (by simp; omega) _) ((HO4.out.alloc _).alloc _) hg2 (by simp; omega)
                obtain ⟨g2, cap2, hv2⟩ := Joins.ownsRow_form hown2 (by omega)
                subst hv2
                have HO5 := Lib.hid hown2
                clear hg2 hown2
                go_wp2
                go_roundw
                case rel =>
                  refine ⟨j + 1, true, xs ++ [⟨(j : Int), ⟨a, b, c, S p⟩⟩], by omega, by omega, by go_num, rfl, ?_, ⟨some ⟨g2, 0, none⟩, cap2, by rw [List.length_append]; rfl⟩, hb6, .inr ⟨rfl, _, HBK.out.1, HBK.out.2, rfl⟩⟩
                  have h := HO5.out
                  rw [List.flatMap_append, List.length_append]
                  exact h
                case measure => simp [intOf]; omega
              · have qe : (er == 0) = false := by simpa using he0
                have HNX : Hid (∀ b : Bnd, b.ok = true → b.show = t → ((j + 1 : Nat) : Int) ≤ b.op) := by
                  refine op_next HN.out (fun b hb hs ho => ?_)
                  have h := (op_at hb hs ho).2.2
                  rcases HPI.out with ⟨h2, _⟩ | ⟨_, _, _, _, _, h2⟩
                  · exact he0 h2
                  · exact h2 _ _ _ _ ⟨h.1, h.2⟩
                have HOz := Lib.hid (HO4.out.alloc (.cells #[.int .i64 a, .int .i64 b, .int .i64 c, .string (S p)] 23))
                have hb6 := hb5.alloc hB4 (.cells #[.int .i64 a, .int .i64 b, .int .i64 c, .string (S p)] 23)
                clear he0
                go_wp2_with fail
                go_roundw
                case rel => exact ⟨j + 1, false, xs, by omega, by omega, by go_num, rfl, HOz.out, ⟨va, vcap, rfl⟩, hb6, .inl ⟨rfl, rfl, HNX.out⟩⟩
                case measure => simp [intOf]; omega
            · have q5 : decide ((j : Int) ≤ 5) = false := by simp; omega
              have HF : Hid (RParseIs s.data.toList [] 50) := by
                obtain ⟨h1, h2⟩ := HK.out
                refine range_no HS.out HH.out k h1 (.inr ?_)
                rw [h2]
                exact op_none HN.out (by omega)
              clear hj
              go_wp2_with fail
              go_ret2
              exact rparse_err HF.out (below_then hb2 hbi)
          · have HBK : Hid (b.ok = true ∧ b.show = t) := ⟨hbo, hbs⟩
            clear hbo hbs
            obtain ⟨z, q5⟩ : ∃ z, decide ((j : Int) ≤ 5) = z := ⟨_, rfl⟩
            cases z
            · go_wp2_with fail
              go_roundw
              case rel =>
                refine ⟨k + 1, bs ++ [b], hlt, by go_num, ?_, HO2.out, ⟨va, vcap, rfl⟩, hbi⟩
                rw [HT.out]; exact HBA.out.snoc HBK.out.1 HBK.out.2
              case measure => simp [intOf]; omega
            · go_wp2_with fail
              go_roundw
              case rel =>
                refine ⟨k + 1, bs ++ [b], hlt, by go_num, ?_, HO2.out, ⟨va, vcap, rfl⟩, hbi⟩
                rw [HT.out]; exact HBA.out.snoc HBK.out.1 HBK.out.2
              case measure => simp [intOf]; omega
      · have q3 : decide (k < ls.length) = false := by simp; omega
        have hK : BoundsAre (sepAt 32 s.data.toList) bs := by
          have h := HBA.out
          rw [List.take_of_length_le (by omega)] at h
          rw [← HL.out] at h; exact h
        have hkl : k = ls.length := by omega
        have HK := Lib.hid hK
        have HKl : Hid (bs.length = ls.length) := by show _ = _; have h := hK.len; rw [HL.out] at h; exact h.symm
        clear hlt hK hkl
        rcases bounds_err HK.out with ⟨h0, h20⟩ | ⟨h50, h20⟩
        · go_wp2_with fail
          refine (rrcheck_as _ bs 0 h0 _ (Bnds.of_owns HO.out) ⟨_, _, rfl⟩ (bounds_sz HK.out)).mono ?_
          rintro e w3 ⟨rfl, hb3⟩
          have HOz := Lib.hid ((Bnds.of_owns HO.out).below hb3 (Nat.le_refl _))
          have hb4 := below_then (below_then hb2 hb) hb3
          go_wp2_with fail
          go_ret2
          exact ⟨_, bs, 0, rfl, HOz.out, ⟨_, _, rfl⟩, .inl ⟨rfl, range_yes HK.out h20⟩, hb4, (FreshV.of_owns HO.out).mono hb2.size⟩
        · have HF : Hid (RParseIs s.data.toList [] 50) := by
            refine range_no HS.out HH.out 20 ?_ (.inl (Nat.le_refl _))
            rw [HL.out]
            have := HKl.out
            omega
          go_wp2_with fail
          refine (rrcheck_as _ bs 50 h50 _ (Bnds.of_owns HO.out) ⟨_, _, rfl⟩ (bounds_sz HK.out)).mono ?_
          rintro e w3 ⟨rfl, hb3⟩
          have hb4 := below_then (below_then hb2 hb) hb3
          clear h20
          go_wp2_with fail
          go_ret2
          exact rparse_err HF.out hb4
end Go.Proofs.YtjjpngdbbjeaiaaGreatDoor
