/- Explain: the order of a package's offers, newest first; what is told of it. Explain: where a need's package is: walks. Explain: what is told of the first needs: the walk of Text. Explain: what the laws' probe comes to: plain. Explain: what the laws' probe looks at: the walk. -/
import Derived.Test.YtbgimpeklblcjaaGreatDoorExTexts
import Derived.Test.YtbgimpeklblcjaaGreatDoorChOffers
import Derived.Test.YtbgimpeklblcjaaGreatDoorChChk
import Derived.Test.YtbgimpeklblcjaaGreatDoorTabFirst
import Derived.Test.YtbgimpeklblcjaaGreatDoorExBl
import Derived.Test.YtbgimpeklblcjaaGreatDoorChCounts
import Derived.Test.YtbgimpeklblcjaaGreatDoorSolPlains
import Derived.Test.YtbgimpeklblcjaaGreatDoorTabLast
namespace Go
open Go.RowKit
def cmpD (x y : DOff) : Int := V4.cmp y.v x.v
theorem good_cmpD : OrdG cmpD := (good_flip good_v4).comap fun x : DOff => x.v
/-- a row in order, newest first; what is as new stays as it stood -/
def OutD (sel out : List DOff) : Prop := ∃ l : List (DOff × Nat), out = l.map Prod.fst ∧ l.Pairwise (Stab.lt cmpD) ∧ ∀ x, x ∈ l ↔ ∃ i, ∃ h : i < sel.length, x = (sel[i], i)
theorem OutD.uniq {sel a b : List DOff} (h : OutD sel a) (h' : OutD sel b) : a = b := by
 obtain ⟨l, rfl, h1, h2⟩ := h
 obtain ⟨m, rfl, g1, g2⟩ := h'
 rw [pairwise_uniq (Stab.lt_irrefl good_cmpD) (fun _ _ _ => Stab.lt_trans good_cmpD) h1 g1 fun x => (h2 x).trans (g2 x).symm]
theorem OutD.nil : OutD [] [] := ⟨[], rfl, List.Pairwise.nil, fun x => by simp⟩
theorem OutD.mem {sel out : List DOff} (h : OutD sel out) : ∀ o ∈ out, o ∈ sel := by
 obtain ⟨l, rfl, _, h2⟩ := h
 intro o ho
 obtain ⟨x, hx, rfl⟩ := List.mem_map.1 ho
 obtain ⟨i, hi, rfl⟩ := (h2 x).1 hx
 exact List.getElem_mem hi
theorem sorted_D {sel : List DOff} {k : Nat → DOff × Nat} {n : Nat} (hn : sel.length = n) (hp : Stab.Perm 0 n (seqOf sel) k) (hs : Stab.Srt cmpD 0 n k) :
  ∃ out, OutD sel out ∧ out.length = n ∧ flat6 dsix n k = out.flatMap DOff.cells := by
 obtain ⟨σ, s1, s2, s3, s4⟩ := hp
 have hk : ∀ i, i < n → ∃ h : σ i < sel.length, k i = (sel[σ i], σ i) := fun i hi => by
  have := (s2 i (Nat.zero_le _) hi).2
  refine ⟨by omega, ?_⟩
  rw [s4]
  exact Prod.ext (seq_get sel (by omega)) rfl
 refine ⟨(List.range n).map fun i => (k i).1, ⟨(List.range n).map k, by rw [List.map_map]; rfl, ?_, fun x => ⟨fun hx => ?_, fun ⟨i, hi, hx⟩ => ?_⟩⟩, by simp, flat6_map n k⟩
 ·refine List.pairwise_map.2 (List.pairwise_iff_getElem.2 fun i j hi hj hij => ?_)
  simp only [List.length_range] at hi hj
  simp only [List.getElem_range]
  exact hs i j (Nat.zero_le _) hij hj
 ·obtain ⟨i, hi, rfl⟩ := List.mem_map.1 hx
  obtain ⟨h1, h2⟩ := hk i (List.mem_range.1 hi)
  exact ⟨σ i, h1, h2⟩
 ·obtain ⟨j, hj, e⟩ := onto_below (σ := σ) (n := n) (fun i hi => (s2 i (Nat.zero_le _) hi).2) s3 i (by omega)
  obtain ⟨h1, h2⟩ := hk j hj
  refine List.mem_map.2 ⟨j, List.mem_range.2 hj, ?_⟩
  rw [h2, hx]
  subst e; rfl
def okO (os : List DOff) : List DOff := os.filter fun o => o.v.ok
/-- what is told of the first needs -/
def textL (needs : List (Want × Value)) (k : Nat) (nm : ByteArray) (out : List DOff) : List UInt8 :=
 (needs.take k).flatMap needT ++ ([111, 102, 32] ++ (nm.data.toList ++ (58 :: (out.flatMap offT ++ [10]))))
def TextIs (needs : List (Want × Value)) (ps : List DPack) (k : Int) (T : ByteArray) (e : Int) : Prop :=
 ((k < 1 ∨ (needs.length : Int) < k) ∧ T = ⟨#[]⟩ ∧ e = 2) ∨ (¬ (k < 1 ∨ (needs.length : Int) < k) ∧ needErr needs ≠ 0 ∧ T = ⟨#[]⟩ ∧ e = needErr needs) ∨
 (¬ (k < 1 ∨ (needs.length : Int) < k) ∧ needErr needs = 0 ∧ e = 0 ∧ ∃ m, ∃ h : m < needs.length, k = (m : Int) + 1 ∧ ∃ out, OutD (okO (findP ps (S needs[m].1.name)).os) out ∧ T = S (textL needs (m + 1) (S needs[m].1.name) out))
theorem TextIs.uniq {needs : List (Want × Value)} {ps : List DPack} {k : Int} {T T' : ByteArray} {e e' : Int} (h : TextIs needs ps k T e) (h' : TextIs needs ps k T' e') : T = T' ∧ e = e' := by
 rcases h with ⟨h1, h2, h3⟩ | ⟨h1, h2, h3, h4⟩ | ⟨h1, h2, h3, m, hm, hk, out, ho, hT⟩ <;> rcases h' with ⟨g1, g2, g3⟩ | ⟨g1, g2, g3, g4⟩ | ⟨g1, g2, g3, m', hm', hk', out', ho', hT'⟩
 ·exact ⟨by rw [h2, g2], by rw [h3, g3]⟩
 ·exact absurd h1 g1
 ·exact absurd h1 g1
 ·exact absurd g1 h1
 ·exact ⟨by rw [h3, g3], by rw [h4, g4]⟩
 ·exact absurd g2 h2
 ·exact absurd g1 h1
 ·exact absurd h2 g2
 ·have e : m = m' := by omega
  subst e
  have := ho.uniq ho'
  subst this
  exact ⟨by rw [hT, hT'], by rw [h3, g3]⟩
theorem needErr_each : ∀ {xs : List (Want × Value)}, needErr xs = 0 → ∀ x ∈ xs, nameOk x.1.name = true ∧ rangeOk x.1.bs = true
 | [], _, x, hx => by cases hx
 | y :: xs, h, x, hx => by
  unfold needErr at h
  split at h
  ·rename_i hy
   rcases List.mem_cons.1 hx with rfl | hx
   ·unfold wantErr at hy
    split at hy
    ·rename_i hn
     unfold rangeErr at hy
     split at hy
     ·rename_i hr
      exact ⟨hn, hr⟩
     ·cases hy
    ·cases hy
   ·exact needErr_each h x hx
  ·rename_i hy; exact absurd h hy
end Go
namespace Go.Proofs.YtbgimpeklblcjaaGreatDoor
open Go.RowKit Go.Maps
set_option maxRecDepth 100000 in
set_option maxHeartbeats 4000000 in
theorem cmpD_any (x y : DOff) (w : World) (hE : Env w) (hx : x.v.p.size ≤ 300) (hy : y.v.p.size ≤ 300) :
  Calls Tryz.prog 29 #[.agg #[.int .i64 x.v.a, .int .i64 x.v.b, .int .i64 x.v.c, .string x.v.p, .bool x.y, x.nv], .agg #[.int .i64 y.v.a, .int .i64 y.v.b, .int .i64 y.v.c, .string y.v.p, .bool y.y, y.nv]] w fun e w' => e = .returned (.int .i64 (cmpD x y)) ∧ Below w.heap.size w w' := by
 have hx1 := Below.refl (w.heap.size + 1) (w.alloc (.cells #[.int .i64 x.v.a, .int .i64 x.v.b, .int .i64 x.v.c, .string x.v.p, .bool x.y, x.nv] 55))
 have hx2 := hx1.alloc (by simp) (.cells #[.int .i64 y.v.a, .int .i64 y.v.b, .int .i64 y.v.c, .string y.v.p, .bool y.y, y.nv] 55)
 have hW := below_first hx2
 obtain ⟨c0, c1, c2, c3⟩ := box_ver hx2
 have hsz : (w.alloc (.cells #[.int .i64 x.v.a, .int .i64 x.v.b, .int .i64 x.v.c, .string x.v.p, .bool x.y, x.nv] 55)).heap.size = w.heap.size + 1 := by simp
 have hy1 := Below.refl ((w.alloc (.cells #[.int .i64 x.v.a, .int .i64 x.v.b, .int .i64 x.v.c, .string x.v.p, .bool x.y, x.nv] 55)).heap.size + 1) ((w.alloc (.cells #[.int .i64 x.v.a, .int .i64 x.v.b, .int .i64 x.v.c, .string x.v.p, .bool x.y, x.nv] 55)).alloc (.cells #[.int .i64 y.v.a, .int .i64 y.v.b, .int .i64 y.v.c, .string y.v.p, .bool y.y, y.nv] 55))
 obtain ⟨d0, d1, d2, d3⟩ := box_ver hy1
 rw [hsz] at d0 d1 d2 d3
 have HC := Lib.hid (cmpP_any y.v.a y.v.b y.v.c y.v.p x.v.a x.v.b x.v.c x.v.p _ (hE.below hW) hy hx)
 have HW := Lib.hid hW
 clear hx1 hx2 hy1 hsz hW hE
 go_enter Tryz.func29, Tryz.ntmps29
 go_wp2_with fail
 refine HC.out.mono ?_
 rintro e w2 ⟨rfl, hb2⟩
 have HB2 := Lib.hid (below_then HW.out hb2)
 clear hb2 c0 c1 c2 c3 d0 d1 d2 d3
 go_wp2_with fail
 go_ret
 exact ⟨rfl, HB2.out⟩
end Go.Proofs.YtbgimpeklblcjaaGreatDoor

namespace Go
end Go
namespace Go.Proofs.YtbgimpeklblcjaaGreatDoor
open Go.RowKit
set_option maxRecDepth 100000 in
set_option maxHeartbeats 1000000 in
theorem text1_as (x : DPack) (b : Nat) (nm : ByteArray) (r : Bool) (hr : (x.name.toList == nm.toList) = r) (w : World) (hc : w.cell? ⟨b, 0, none⟩ = some (.string nm)) :
  Calls Tryz.prog 26 #[.agg #[.string x.name, x.ov], .pointer (some ⟨b, 0, none⟩)] w fun e w' => e = .returned (.bool r) ∧ Below w.heap.size w w' := by
 have hW := (Below.refl w.heap.size w).alloc (Nat.le_refl _) (.cells #[.string x.name, x.ov] 52)
 have hz := cell_lt hc
 have c1 := (hW.cell (p := ⟨b, 0, none⟩) hz).trans hc
 go_enter Tryz.func26, Tryz.ntmps26
 go_wp2_with fail
 go_ret
 exact ⟨rfl, hW⟩
def TixRel (ps : List DPack) (n : ByteArray) (w : World) (i : Value) (wr : World) : Prop :=
 ∃ k : Nat, k ≤ ps.length ∧ i = .int .i64 (k : Int) ∧ (∀ j (h : j < ps.length), j < k → ps[j].name ≠ n) ∧ Below w.heap.size w wr
set_option maxRecDepth 100000 in
set_option maxHeartbeats 2000000 in
theorem textIx_any (v : Value) (ps : List DPack) (b : Nat) (nm : ByteArray) (w : World) (hv : Packs w v ps) (hc : w.cell? ⟨b, 0, none⟩ = some (.string nm)) :
  Calls Tryz.prog 25 #[v, .func (.func 26) #[] #[.pointer (some ⟨b, 0, none⟩)]] w fun e w' => ∃ r, e = .returned (.int .i64 r) ∧ PackAt ps nm r ∧ Below w.heap.size w w' := by
 obtain ⟨hmx, a0, cap0, rfl⟩ := hv.len
 have HV := Lib.hid hv
 have hmx2 : ps.length ≤ 9223372036854775807 := Nat.le_trans hmx (by decide)
 have HC := Lib.hid hc
 have hz := cell_lt hc
 clear hv hc hmx
 go_enter Tryz.func25, Tryz.ntmps25
 go_wp2_with fail
 go_loopw [8] (fun i wr => TixRel ps nm w i wr) (fun i _ => ps.length - (intOf i).toNat)
 case atStart => exact ⟨0, Nat.zero_le _, rfl, fun j h h' => by omega, Below.refl _ _⟩
 case round =>
  obtain ⟨k, hk, rfl, hall, hb⟩ := hrel
  have HA := Lib.hid hall
  clear hall
  by_cases hlt : k < ps.length
  ·have i0 : (0 : Int) ≤ (k : Int) := by omega
   have i1 : (k : Int) < (ps.length : Int) := by omega
   obtain ⟨bx, ox, rfl, hbx, c0, c1⟩ := HV.out.at' hb hlt
   obtain ⟨x, hxe⟩ : ∃ x, ps[k] = x := ⟨_, rfl⟩
   rw [hxe] at c0 c1
   have HX := Lib.hid hxe
   have cb := cell_on HC.out hb
   clear hxe
   by_cases he : x.name = nm
   ·have hr : (x.name.toList == nm.toList) = true := by rw [he]; exact beq_self_eq_true _
    have HN : Hid (PackAt ps nm (k : Int)) := .inl ⟨k, hlt, rfl, findP_at ps k hlt HA.out (by rw [HX.out]; exact he)⟩
    have HF := Lib.hid (text1_as x b nm true hr _ cb)
    clear he hr
    go_wp2_with fail
    refine HF.out.mono ?_
    rintro e w1 ⟨rfl, hb1⟩
    have hb2 := below_then hb hb1
    clear hb1
    go_wp2_with fail
    go_ret
    exact ⟨_, rfl, HN.out, hb2⟩
   ·have hr : (x.name.toList == nm.toList) = false := by rw [beq_eq_false_iff_ne]; exact fun h => he (bytes_injC h)
    have HF := Lib.hid (text1_as x b nm false hr _ cb)
    have HNe := Lib.hid he
    clear he hr
    go_wp2_with fail
    refine HF.out.mono ?_
    rintro e w1 ⟨rfl, hb1⟩
    have hb2 := below_then hb hb1
    clear c0 c1 cb hb1
    go_wp2_with fail
    go_roundw
    case rel =>
     refine ⟨k + 1, hlt, by go_num, fun j h hj => ?_, hb2⟩
     by_cases hjk : j < k
     ·exact HA.out j h hjk
     ·have : j = k := by omega
      subst this
      rw [HX.out]; exact HNe.out
    case measure => simp [intOf]; omega
  ·have q5 : decide (k < ps.length) = false := decide_eq_false hlt
   have HN : Hid (PackAt ps nm (-1)) := .inr ⟨rfl, findP_none (fun j hj => HA.out j hj (by omega))⟩
   clear hlt
   go_wp2_with fail
   go_ret
   exact ⟨_, rfl, HN.out, hb⟩
end Go.Proofs.YtbgimpeklblcjaaGreatDoor

namespace Go
open Go.RowKit
theorem okO_snoc {os : List DOff} {k : Nat} (hk : k < os.length) : okO (os.take (k + 1)) = if os[k].v.ok = true then okO (os.take k) ++ [os[k]] else okO (os.take k) := by
 unfold okO
 rw [List.take_succ_eq_append_getElem hk, List.filter_append, List.filter_cons, List.filter_nil]
 split <;> simp
theorem okO_len (os : List DOff) (k : Nat) : (okO (os.take k)).length ≤ os.length := by
 unfold okO
 exact Nat.le_trans (List.length_filter_le _ _) (by rw [List.length_take]; omega)
end Go
namespace Go.Proofs.YtbgimpeklblcjaaGreatDoor
open Go.RowKit Go.Maps
def TextPost (needs : List (Want × Value)) (ps : List DPack) (k : Int) (w : World) (e : Ending) (w' : World) : Prop :=
 ∃ T er, e = .returned (.tuple #[.string T, .int .i64 er]) ∧ TextIs needs ps k T er ∧ Below w.heap.size w w'
def TxRel (os : List DOff) (w2 : World) (v i : Value) (wr : World) : Prop :=
 ∃ j : Nat, j ≤ os.length ∧ i = .int .i64 (j : Int) ∧ wr.ownsRow w2.heap.size 55 6 v (okO (os.take j)).length ((okO (os.take j)).flatMap DOff.cells) ∧ Below w2.heap.size w2 wr
set_option maxRecDepth 100000 in
set_option maxHeartbeats 8000000 in
theorem exText_any (pk nv : Value) (ps : List DPack) (needs : List (Want × Value)) (k : Int) (w : World) (hp : Packs w pk ps) (hn : Wants w nv needs) (hcap : ∀ a n c, nv = .slice a n c → n ≤ c) (hE : EnvI w) (hN : NeedsP needs) (hO : ∀ p ∈ ps, p.os.length ≤ 100 ∧ ∀ o ∈ p.os, OffP o) :
  Calls Tryz.prog 13 #[pk, nv, .int .i64 k] w (TextPost needs ps k w) := by
 obtain ⟨hmx, na, nc, rfl⟩ := hn.len
 obtain ⟨_, a0, cap0, rfl⟩ := hp.len
 have hnc := hcap _ _ _ rfl
 have HX := Lib.hid (⟨hp, hn, hE⟩ : _ ∧ _ ∧ _)
 have HN := Lib.hid hN
 have HO := Lib.hid hO
 obtain ⟨er, her⟩ : ∃ e, needErr needs = e := ⟨_, rfl⟩
 have hCk := chCheck_any _ needs w hn hE.env (fun x hx b hb => by have := (hN.2 x hx).2.2 b hb; omega)
 rw [her] at hCk
 have HCk := Lib.hid hCk
 have HEr := Lib.hid her
 have HNc := Lib.hid hnc
 have hn30 : needs.length ≤ 30 := hN.1
 have HI := Lib.hid info_offer
 clear hp hn hcap hE hN hO hCk her hnc hmx
 by_cases g1 : k < 1
 ·have q1 : decide (k < 1) = true := decide_eq_true g1
  have HF : Hid (TextPost needs ps k w (.returned (.tuple #[.string ⟨#[]⟩, .int .i64 2])) w) := ⟨_, _, rfl, .inl ⟨.inl g1, rfl, rfl⟩, Below.refl _ _⟩
  clear g1
  go_enter Tryz.func13, Tryz.ntmps13
  go_wp2_with fail
  go_ret2
  exact HF.out
 have q1 : decide (k < 1) = false := decide_eq_false g1
 by_cases g2 : (needs.length : Int) < k
 ·have q2 : decide ((needs.length : Int) < k) = true := decide_eq_true g2
  have HF : Hid (TextPost needs ps k w (.returned (.tuple #[.string ⟨#[]⟩, .int .i64 2])) w) := ⟨_, _, rfl, .inl ⟨.inr g2, rfl, rfl⟩, Below.refl _ _⟩
  clear g1 g2
  go_enter Tryz.func13, Tryz.ntmps13
  go_wp2_with fail
  go_ret2
  exact HF.out
 have q2 : decide ((needs.length : Int) < k) = false := decide_eq_false g2
 obtain ⟨m, hmk⟩ : ∃ m : Nat, k = (m : Int) + 1 := ⟨(k - 1).toNat, by omega⟩
 have hml : m < needs.length := by omega
 have HK := Lib.hid (⟨hmk, hml, not_or.2 ⟨g1, g2⟩⟩ : _ ∧ _ ∧ _)
 have hkz : IntKind.i64.wrap (k - 1) = (m : Int) := by rw [IntKind.wrap_i64]; omega
 have m0 : (0 : Int) ≤ (m : Int) := by omega
 have m1 : (m : Int) < (needs.length : Int) := by omega
 have hk0 : 0 ≤ k := by omega
 have hkc : k ≤ (nc : Int) := by have := HNc.out; omega
 have HKc := Lib.hid (⟨hk0, hkc⟩ : _ ∧ _)
 clear g1 g2 hmk hk0 hkc
 go_enter Tryz.func13, Tryz.ntmps13
 go_wp2_with fail
 refine HCk.out.mono ?_
 rintro e w1 ⟨rfl, hb1⟩
 by_cases he : er = 0
 case neg =>
  have q0 : (er != 0) = true := bne_iff_ne.2 he
  have HF : Hid (TextPost needs ps k w (.returned (.tuple #[.string ⟨#[]⟩, .int .i64 er])) w1) := ⟨_, _, rfl, .inr (.inl ⟨HK.out.2.2, by rw [HEr.out]; exact he, rfl, HEr.out.symm⟩), hb1⟩
  clear he hb1
  go_wp2_with fail
  go_ret2
  exact HF.out
 subst he
 have HOk := Lib.hid (needErr_each HEr.out)
 obtain ⟨bn, qn, rfl, hbn, c0, c9⟩ := HX.out.2.1.at' hb1 hml
 obtain ⟨nm, hnm⟩ : ∃ s, S needs[m].1.name = s := ⟨_, rfl⟩
 rw [hnm] at c0
 have HNm := Lib.hid hnm
 have hx1 := Below.refl (w1.heap.size + 1) (w1.alloc (.cells #[.string nm] 9))
 have b0 := box_cells hx1 0
 simp only [List.getElem?_toArray, List.getElem?_cons_zero] at b0
 have hal := (Below.refl w1.heap.size w1).alloc (Nat.le_refl _) (.cells #[.string nm] 9)
 have HB1 := Lib.hid (below_then hb1 hal)
 have HIx := Lib.hid (textIx_any (.slice a0 ps.length cap0) ps w1.heap.size nm _ (HX.out.1.below HB1.out (Nat.le_refl _)) b0)
 have HLt := Lib.hid hb1.size
 clear hx1 hal hb1 hnm c9
 go_wp2_with fail
 refine HIx.out.mono ?_
 rintro e w2 ⟨r, rfl, hpk, hb2⟩
 have HB2 := Lib.hid (below_then HB1.out hb2)
 have HCn := Lib.hid (cell_on b0 hb2)
 obtain ⟨q, hq⟩ : ∃ q, decide (0 ≤ r) = q := ⟨_, rfl⟩
 have HPk := Lib.hid (⟨hpk, hq⟩ : _ ∧ _)
 clear hpk hb2 b0 c0
 go_upto_if 37 with fail
 go_cut [10] (fun v wx => wx.ownsRow w2.heap.size 55 6 v (okO (findP ps nm).os).length ((okO (findP ps nm).os).flatMap DOff.cells) ∧ Below w2.heap.size w2 wx)
 case first =>
  rcases HPk.out.1 with ⟨i, hi, rfl, hf⟩ | ⟨rfl, hf⟩
  ·have hqt : q = true := by rw [← HPk.out.2]; exact decide_eq_true (by omega)
   subst hqt
   have i0 : (0 : Int) ≤ (i : Int) := by omega
   have i1 : (i : Int) < (ps.length : Int) := by omega
   obtain ⟨bx, ox, rfl, hbx, c0, c1⟩ := HX.out.1.at' HB2.out hi
   have HOs := Lib.hid (HX.out.1.2 _ (List.getElem_mem hi)).1
   have HOb := Lib.hid (HO.out _ (List.getElem_mem hi))
   generalize ps[i]'hi = p at c0 c1 HOs HOb hf
   obtain ⟨xn, xo, xa, xc⟩ := p
   simp only [DPack.ov] at c1 HOs HOb
   have HFp := Lib.hid hf
   have hxl : xo.length ≤ 9223372036854775807 := by have := HOb.out.1; omega
   clear c0 hf hq
   go_wp2_with fail
   go_loopw [10, 44] (fun v i wr => TxRel xo w2 v i wr) (fun _ i _ => xo.length - (intOf i).toNat)
   case atStart => exact ⟨0, Nat.zero_le _, rfl, World.ownsRow_nil _ _ _ _, Below.refl _ _⟩
   case round =>
    obtain ⟨j, hj, rfl, hown, hb⟩ := hrel
    have HOw := Lib.hid hown
    have HB := Lib.hid hb
    clear hown
    by_cases hlt : j < xo.length
    ·have j0 : (0 : Int) ≤ (j : Int) := by omega
     have j1 : (j : Int) < (xo.length : Int) := by omega
     have hbw := below_then HB2.out hb
     obtain ⟨bo, oo, rfl, hbo, e0, e1, e2, e3, e4, e5⟩ := HOs.out.1.at' hbw hlt
     have HSn := Lib.hid (okO_snoc hlt)
     have hop := (HOb.out.2 _ (List.getElem_mem hlt)).1
     generalize xo[j]'hlt = o at e0 e1 e2 e3 e4 e5 HSn hop
     obtain ⟨ov, oy, ons, ona, onc⟩ := o
     simp only [DOff.nv] at e0 e1 e2 e3 e4 e5 hop
     have hwj : IntKind.i64.wrap ((j : Int) + 1) = (j : Int) + 1 := by have := HOb.out.1; rw [IntKind.wrap_i64]; omega
     have hx3 := Below.refl (wr.heap.size + 1) (wr.alloc (.cells #[.int .i64 ov.a, .int .i64 ov.b, .int .i64 ov.c, .string ov.p, .bool oy, .slice ona ons.length onc] 55))
     have hb3 := below_first hx3
     have d0 := box_cells hx3 0
     have d1 := box_cells hx3 1
     have d2 := box_cells hx3 2
     have d3 := box_cells hx3 3
     simp only [List.getElem?_toArray, List.getElem?_cons_zero, List.getElem?_cons_succ] at d0 d1 d2 d3
     have HX3 := Lib.hid hx3
     have HB3 := Lib.hid (below_then hb hb3)
     have HO3 := Lib.hid (owns_below HOw.out hb3)
     obtain ⟨ok, hok⟩ : ∃ b, ov.ok = b := ⟨_, rfl⟩
     rw [hok] at HSn
     have HCv := Lib.hid (checkO_as ov (if ok = true then 0 else 40) (by rw [hok]) _ (HX.out.2.2.env.below (below_then HB2.out HB3.out)) (by omega))
     clear hx3 hb3 hb hbw hok hop
     cases ok
     ·go_wp2_with fail
      refine HCv.out.mono ?_
      rintro e w4 ⟨rfl, hb4⟩
      have HB4 := Lib.hid (below_then HB3.out hb4)
      have HO4 := Lib.hid (owns_below HO3.out hb4)
      clear hb4 d0 d1 d2 d3 e0 e1 e2 e3 e4 e5
      go_wp2_with fail
      go_roundw
      case rel => exact ⟨j + 1, hlt, by go_num, by rw [HSn.out]; exact HO4.out, HB4.out⟩
      case measure => simp [intOf]; omega
     ·go_wp2_with fail
      refine HCv.out.mono ?_
      rintro e w4 ⟨rfl, hb4⟩
      have HB4 := Lib.hid (below_then HB3.out hb4)
      have HO4 := Lib.hid (owns_below HO3.out hb4)
      have hx4 := box_then HX3.out hb4
      have d0 := box_cells hx4 0
      have d1 := box_cells hx4 1
      have d2 := box_cells hx4 2
      have d3 := box_cells hx4 3
      have d4 := box_cells hx4 4
      have d5 := box_cells hx4 5
      simp only [List.getElem?_toArray, List.getElem?_cons_zero, List.getElem?_cons_succ] at d0 d1 d2 d3 d4 d5
      have hB3 := HB4.out.size
      have hol := okO_len xo j
      have hox := HOb.out.1
      obtain ⟨i0', hi', hz0, hz1, hz2⟩ : ∃ i, Tryz.prog.info? 55 = some i ∧ i.zero = some (.agg #[.int .i64 0, .int .i64 0, .int .i64 0, .string ⟨#[]⟩, .bool false, .slice none 0 0]) ∧ i.size = 6 ∧ i.bytes = 72 := by
       have := HI.out
       rcases h : Tryz.prog.info? 55 with _ | i
       ·rw [h] at this; cases this
       ·rw [h] at this
        simp only [Option.map_some, Option.some.injEq, Prod.mk.injEq] at this
        exact ⟨i, rfl, this.1, this.2.1, this.2.2⟩
      clear hx4 hb4 e0 e1 e2 e3 e4 e5
      go_wp2_with (at_builtin; go_must (refine wpList_append_own _ rfl _ _ 50 rfl w2.heap.size 55 i0' (.agg #[.int .i64 0, .int .i64 0, .int .i64 0, .string ⟨#[]⟩, .bool false, .slice none 0 0]) 6 72 Tryz.underlying50 hi' hz0 hz1 hz2 rfl (by decide) _ _ _ rfl (HO4.out.alloc _) ⟨_, 0, none⟩ 1 1 [.int .i64 ov.a, .int .i64 ov.b, .int .i64 ov.c, .string ov.p, .bool oy, .slice ona ons.length onc] rfl rfl ?c1 ?c2 ?c3 ?c4 ?c5 ?_))
      case c1 => exact row6_at _ _ (by simp) _ _ _ _ _ _ _
      case c2 => intro u hu; simp at hu; rcases hu with rfl | rfl | rfl | rfl | rfl | rfl <;> rfl
      case c3 => unfold maxLen; omega
      case c4 => omega
      case c5 => simp; omega
      intro v' w8 hown2 hg2 _
      have hb8 := below_grown (HB4.out.alloc hB3 _) (HO4.out.alloc _) hg2 (by simp; omega)
      obtain ⟨g2, cap2, hv2⟩ := Joins.ownsRow_form hown2 (by omega)
      subst hv2
      have HO8 := Lib.hid hown2
      have HB8 := Lib.hid hb8
      clear hg2 hown2 hb8
      go_wp2_with fail
      go_roundw
      case rel =>
       refine ⟨j + 1, hlt, by go_num, ?_, HB8.out⟩
       have h := HO8.out
       rw [HSn.out, if_pos trivial, List.flatMap_append, List.length_append]
       exact h
      case measure => simp [intOf]; omega
    ·have q5 : decide (j < xo.length) = false := decide_eq_false hlt
     have hke : xo.take j = xo := List.take_of_length_le (by omega)
     have hown := HOw.out
     rw [hke] at hown
     have HOw2 := Lib.hid hown
     clear hlt hke hown hb
     go_wp2_with fail
     go_meet
     case rel => rw [HFp.out]; exact ⟨HOw2.out, HB.out⟩
  ·have hqf : q = false := by rw [← HPk.out.2]; rfl
   subst hqf
   have HFp := Lib.hid hf
   clear hf hq
   go_wp2_with fail
   go_meet
   case rel => rw [HFp.out]; exact ⟨World.ownsRow_nil _ _ _ _, Below.refl _ _⟩
 case rest =>
  obtain ⟨hown, hbc⟩ := hcut
  have hsl : (okO (findP ps nm).os).length ≤ 100 ∧ ∀ o ∈ okO (findP ps nm).os, o.v.ok = true ∧ o.ok w ∧ o.v.p.size ≤ 300 := by
   constructor
   ·refine Nat.le_trans (List.length_filter_le _ _) ?_
    rcases hfp : (ps.find? fun p => decide (p.name = nm)) with _ | p
    ·unfold findP; rw [hfp]; simp
    ·unfold findP; rw [hfp]; exact (HO.out p (List.mem_of_find?_eq_some hfp)).1
   ·intro o ho
    obtain ⟨h1, h2⟩ := List.mem_filter.1 ho
    obtain ⟨p, hp, hop⟩ := findP_os h1
    exact ⟨h2, (HX.out.1.2 p hp).1.2 o hop, by have := ((HO.out p hp).2 o hop).1; omega⟩
  obtain ⟨sel, hse⟩ : ∃ s, okO (findP ps nm).os = s := ⟨_, rfl⟩
  rw [hse] at hown hsl
  have HSe := Lib.hid hse
  have HSl := Lib.hid hsl
  have HOw := Lib.hid hown
  have HBc := Lib.hid hbc
  clear hse hsl hown hbc
  go_upto_region 16 with fail
  go_cut [58] (fun _ wx => ∃ out, OutD sel out ∧ ORow wx u10 out ∧ Below w2.heap.size w2 wx)
  case first =>
   have hown := HOw.out
   rcases Joins.ownsRow_forms hown with ⟨hv, h0⟩ | ⟨g, cap, hv⟩
   ·have hs0 : sel = [] := List.eq_nil_of_length_eq_zero h0
    subst hv hs0
    have HOr := Lib.hid (ORow.of_owns HOw.out)
    clear hown h0
    go_wp2_with fail
    refine (sortStable_nil _ _).mono ?_
    rintro e w3 ⟨rfl, rfl⟩
    go_wp2_with fail
    go_meet
    case rel => exact ⟨[], OutD.nil, HOr.out, HBc.out⟩
   ·subst hv
    have hO6 : Own6 dsix w2.heap.size 55 g sel.length cap (seqOf sel) wc := by
     show World.ownsRow _ _ _ _ _ _ _
     rw [flat6_seq]; exact hown
    have hgood : ∀ t, t < sel.length → (seqOf sel t).1.v.p.size ≤ 300 := fun t ht => by
     rw [seq_get sel ht]
     exact (HSl.out.2 _ (List.getElem_mem ht)).2.2
    have hcm : Cmp6 dsix Tryz.prog 29 #[] (fun o => o.v.p.size ≤ 300) cmpD wc g := fun W hg x y hx hy =>
     cmpD_any x y W (HX.out.2.2.env.below (below_then HB2.out (below_grown HBc.out hown hg HBc.out.size))) hx hy
    have HS := Lib.hid (sortStable_any dsix w2.heap.size g sel.length cap wc (fun o => o.v.p.size ≤ 300) cmpD good_cmpD 29 #[] (fun args w => by go_simp) hcm
     (seqOf sel) wc hO6 (grown_same _ _) (by have := HSl.out.1; omega) dsix_one hgood (fun p q h _ => h))
    clear hO6 hgood hcm hown
    go_wp2_with fail
    refine HS.out.mono ?_
    rintro e w3 ⟨rfl, ⟨kk, hpm, hsr, hown2⟩, hg2⟩
    have HF : Hid (∃ out, OutD sel out ∧ ORow w3 (.slice (some ⟨g, 0, none⟩) sel.length cap) out ∧ Below w2.heap.size w2 w3) := by
     obtain ⟨out, h1, h2, h3⟩ := sorted_D rfl hpm hsr
     have hown3 : w3.ownsRow w2.heap.size 55 6 (.slice (some ⟨g, 0, none⟩) sel.length cap) sel.length (flat6 dsix sel.length kk) := hown2
     rw [h3] at hown3
     exact ⟨out, h1, ORow.of_owns hown3, below_grown HBc.out HOw.out hg2 HBc.out.size⟩
    clear hpm hsr hown2 hg2
    go_wp2_with fail
    go_meet
    case rel => exact HF.out
  case rest =>
   obtain ⟨out, hod, hor, hb6⟩ := hcut
   obtain ⟨va, vc, rfl⟩ := hor.len.2
   have HB6 := Lib.hid (below_then HB2.out hb6)
   have hoo : ∀ o ∈ out, o.v.ok = true ∧ o.ok w ∧ o.v.p.size ≤ 300 := fun o ho => HSl.out.2 o (hod.mem o ho)
   have hol : out.length ≤ 100 := by
    obtain ⟨l, h1, h2, h3⟩ := hod
    have hnd : l.Nodup := h2.imp fun h e => by subst e; exact Stab.lt_irrefl good_cmpD _ h
    have hsub : ∀ x ∈ l.map Prod.snd, x ∈ List.range sel.length := fun x hx => by
     obtain ⟨y, hy, rfl⟩ := List.mem_map.1 hx
     obtain ⟨i, hi, rfl⟩ := (h3 y).1 hy
     exact List.mem_range.2 hi
    have hnd2 : (l.map Prod.snd).Nodup := List.pairwise_map.2 (hnd.imp_of_mem fun {x y} hx hy h e => h (by
     obtain ⟨i, hi, rfl⟩ := (h3 x).1 hx
     obtain ⟨i', hi', rfl⟩ := (h3 y).1 hy
     simp only at e; subst e; rfl))
    have := nodup_len hnd2 hsub
    rw [List.length_map, List.length_range] at this
    rw [h1, List.length_map]; have := HSl.out.1; omega
   have HOd := Lib.hid hod
   have hof : Offs wc (.slice va out.length vc) out := ⟨hor, fun o ho => (hoo o ho).2.1.below HB6.out (Nat.le_refl _)⟩
   have hd := (Below.refl wc.heap.size wc).drew
   have HBd := Lib.hid (below_then HB6.out hd)
   have hws := wants_take (HX.out.2.1.below HBd.out (Nat.le_refl _)) HNc.out (show m + 1 ≤ needs.length by omega)
   obtain ⟨sv, hsv⟩ : ∃ v, sliced (some ⟨bn, qn, none⟩) 0 (m + 1) nc 2 = v := ⟨_, rfl⟩
   rw [hsv] at hws
   obtain ⟨_, sa, sc, rfl⟩ := hws.len
   have hst2 : ∀ W, (sizeOf (Tryz.prog.elem 24)).run Tryz.prog W = .ok 2 W := fun W => by go_simp
   have hsl : ∀ W, (Instr.slice 24 (.slice (some ⟨bn, qn, none⟩) needs.length nc) none (some (.int .i64 k)) none).run Tryz.prog W = .ok (.slice sa (needs.take (m + 1)).length sc) W := fun W => by
    have := run_slice_h (P := Tryz.prog) (w := W) (t := 24) (a := some ⟨bn, qn, none⟩) (len := needs.length) (cap := nc) rfl .i64 k HKc.out.1 HKc.out.2
    rw [this, hst2]
    have hk : k.toNat = m + 1 := by have := HK.out.1; omega
    simp [Result.andThen, hk, hsv]
   have hlA : ((needs.take (m + 1)).flatMap needT).length ≤ 100000 := by
    have := flat_len (f := needT) (m := 3000) (needs.take (m + 1)) (fun x hx => by
     have h := HOk.out x (List.mem_of_mem_take hx)
     exact needT_len (by have := (name_len h.1).2.1; omega) h.2)
    have h2 : (needs.take (m + 1)).length ≤ 30 := by rw [List.length_take]; omega
    omega
   have hlB : (out.flatMap offT).length ≤ 10000 := by
    have := flat_len (f := offT) (m := 100) out (fun o ho => offT_len (hoo o ho).1)
    omega
   have hln : nm.data.toList.length ≤ 24 := by
    have h := HOk.out _ (List.getElem_mem hml)
    rw [← HNm.out, S_data]
    exact (name_len h.1).2.1
   have HLN : Hid (∀ W, Below wc.drew.heap.size wc.drew W → Calls Tryz.prog 31 #[.func (.func 32) #[] #[], .slice sa (needs.take (m + 1)).length sc] W fun e w' => e = .returned (.string (S ((needs.take (m + 1)).flatMap needT))) ∧ Below W.heap.size W w') := fun W hW => by
    refine linesNeed_any (needs.take (m + 1)) sa sc W (hws.below hW (Nat.le_refl _)) (fun x hx W' hW' => ?_) (by omega) (by rw [List.length_take]; omega)
    have h := HOk.out x (List.mem_of_mem_take hx)
    have hb := HX.out.2.1.2 x (List.mem_of_mem_take hx)
    have hbb := (HN.out.2 x (List.mem_of_mem_take hx)).2.2
    obtain ⟨xn, xv⟩ := x
    obtain ⟨hbn, ra, rc, hrv⟩ := hb
    simp only at hrv hbn h hbb
    subst hrv
    have hWW := below_then HBd.out (below_then hW hW')
    exact need_any xn ra rc W' (hbn.below hWW (Nat.le_refl _)) (HX.out.2.2.below hWW) (by have := (name_len h.1).2.1; omega) h.2 (fun b hb => by have := hbb b hb; omega)
   have HLO : Hid (∀ W, Below wc.drew.heap.size wc.drew W → Calls Tryz.prog 33 #[.func (.func 34) #[] #[], .slice va out.length vc] W fun e w' => e = .returned (.string (S (out.flatMap offT))) ∧ Below W.heap.size W w') := fun W hW => by
    have hWd := below_then hd hW
    exact linesOffer_any out va vc W (hof.below hWd (Nat.le_refl _)) (fun o ho W' hW' => offer_any o W' (HX.out.2.2.below (below_then HB6.out (below_then hWd hW'))) (hoo o ho).1) (by omega) (by omega)
   have r1 := fun W => add_asE (P := Tryz.prog) (a := S ((needs.take (m + 1)).flatMap needT)) (b := ⟨#[111, 102, 32]⟩) (c := S ((needs.take (m + 1)).flatMap needT ++ [111, 102, 32])) (S_append _ [111, 102, 32]) (by rw [S_sizeE]; simp only [List.length_append, List.length_cons, List.length_nil]; omega) W
   have r2 := fun W => add_asE (P := Tryz.prog) (a := S ((needs.take (m + 1)).flatMap needT ++ [111, 102, 32])) (b := nm) (c := S ((needs.take (m + 1)).flatMap needT ++ [111, 102, 32] ++ nm.data.toList)) (by have h := S_append ((needs.take (m + 1)).flatMap needT ++ [111, 102, 32]) nm.data.toList; rw [S_of] at h; exact h) (by rw [S_sizeE]; simp only [List.length_append, List.length_cons, List.length_nil]; omega) W
   have r3 := fun W => add_asE (P := Tryz.prog) (a := S ((needs.take (m + 1)).flatMap needT ++ [111, 102, 32] ++ nm.data.toList)) (b := ⟨#[58]⟩) (c := S ((needs.take (m + 1)).flatMap needT ++ [111, 102, 32] ++ nm.data.toList ++ [58])) (S_append _ [58]) (by rw [S_sizeE]; simp only [List.length_append, List.length_cons, List.length_nil]; omega) W
   have r4 := fun W => add_asE (P := Tryz.prog) (a := S ((needs.take (m + 1)).flatMap needT ++ [111, 102, 32] ++ nm.data.toList ++ [58])) (b := S (out.flatMap offT)) (c := S ((needs.take (m + 1)).flatMap needT ++ [111, 102, 32] ++ nm.data.toList ++ [58] ++ out.flatMap offT)) (S_append _ _) (by rw [S_sizeE]; simp only [List.length_append, List.length_cons, List.length_nil]; omega) W
   have r5 := fun W => add_asE (P := Tryz.prog) (a := S ((needs.take (m + 1)).flatMap needT ++ [111, 102, 32] ++ nm.data.toList ++ [58] ++ out.flatMap offT)) (b := ⟨#[10]⟩) (c := S ((needs.take (m + 1)).flatMap needT ++ [111, 102, 32] ++ nm.data.toList ++ [58] ++ out.flatMap offT ++ [10])) (S_append _ [10]) (by rw [S_sizeE]; simp only [List.length_append, List.length_cons, List.length_nil]; omega) W
   have hT : (needs.take (m + 1)).flatMap needT ++ [111, 102, 32] ++ nm.data.toList ++ [58] ++ out.flatMap offT ++ [10] = textL needs (m + 1) nm out := by unfold textL; simp
   rw [hT] at r5
   have HTi : Hid (TextIs needs ps k (S (textL needs (m + 1) nm out)) 0) := .inr (.inr ⟨HK.out.2.2, HEr.out, rfl, m, HK.out.2.1, HK.out.1, out, by rw [HNm.out, HSe.out]; exact HOd.out, by rw [HNm.out]⟩)
   generalize S ((needs.take (m + 1)).flatMap needT ++ [111, 102, 32] ++ nm.data.toList ++ [58] ++ out.flatMap offT) = A4 at r4 r5
   generalize S ((needs.take (m + 1)).flatMap needT ++ [111, 102, 32] ++ nm.data.toList ++ [58]) = A3 at r3 r4
   generalize S ((needs.take (m + 1)).flatMap needT ++ [111, 102, 32] ++ nm.data.toList) = A2 at r2 r3
   generalize S ((needs.take (m + 1)).flatMap needT ++ [111, 102, 32]) = A1 at r1 r2
   generalize S ((needs.take (m + 1)).flatMap needT) = A0 at r1 HLN
   generalize S (out.flatMap offT) = B0 at r4 HLO
   generalize S (textL needs (m + 1) nm out) = A5 at r5 HTi
   have hst : wc.drew.cell? ⟨w1.heap.size, 0, none⟩ = some (.string nm) ∧ Below wc.drew.heap.size wc.drew wc.drew := ⟨cell_on (cell_on HCn.out hb6) hd, Below.refl _ _⟩
   generalize (needs.take (m + 1)).length = nl at hsl HLN
   clear hod hor hb6 hoo hol hof hd hws hsv hst2 hlA hlB hln hT
   go_wp2_with fail
   refine wp_region_held_drew (S := (fun W => W.cell? ⟨w1.heap.size, 0, none⟩ = some (.string nm) ∧ Below wc.drew.heap.size wc.drew W)) (by kernel_rfl) (hst) (fun hHeld => ?_)
   refine wpAnyH_take (i := 0) (v := ?_) rfl (by kernel_rfl) (by kernel_rfl) (by kernel_rfl) (fun _ _ _ h => h) (Or.inl ⟨by kernel_rfl, ?_⟩) hHeld ?_
   rotate_left
   ·(rintro W ⟨e0, _⟩; go_simp; (try with_reducible rfl))
   (try simp only [Act.put, putL])
   refine wpAnyH_take (i := 1) (v := ?_) rfl (by kernel_rfl) (by kernel_rfl) (by kernel_rfl) (fun _ _ _ h => h) (Or.inl ⟨by kernel_rfl, ?_⟩) hHeld ?_
   rotate_left
   ·(rintro W ⟨e0, _⟩; go_simp; (try with_reducible rfl))
   (try simp only [Act.put, putL])
   refine wpAnyH_take (i := 2) (v := ?_) rfl (by kernel_rfl) (by kernel_rfl) (by kernel_rfl) (fun _ _ _ h => h) (Or.inl ⟨by kernel_rfl, ?_⟩) hHeld ?_
   rotate_left
   ·(rintro W ⟨e0, _⟩; go_simp; (try with_reducible rfl))
   (try simp only [Act.put, putL])
   refine wpAnyH_take (i := 5) (v := ?_) rfl (by kernel_rfl) (by kernel_rfl) (by kernel_rfl) (fun _ _ _ h => h) (Or.inl ⟨by kernel_rfl, ?_⟩) hHeld ?_
   rotate_left
   ·(rintro W ⟨e0, _⟩; go_simp; (try with_reducible rfl))
   (try simp only [Act.put, putL])
   refine wpAnyH_take (i := 8) (v := ?_) rfl (by kernel_rfl) (by kernel_rfl) (by kernel_rfl) (fun _ _ _ h => h) (Or.inl ⟨by kernel_rfl, ?_⟩) hHeld ?_
   rotate_left
   ·(rintro W ⟨e0, _⟩; go_simp; (try with_reducible rfl))
   (try simp only [Act.put, putL])
   refine wpAnyH_ready (rs := [3]) (by kernel_rfl) (by simp) ?_
   refine AllReadyH.cons rfl (fun K hK => ?_) AllReadyH.nil
   go_simp
   refine (HLN.out _ hHeld.2).mono ?_
   rintro e w7 ⟨rfl, hk7⟩
   refine hK.out _ _ (⟨cell_on hHeld.1 hk7, below_then hHeld.2 hk7⟩) (fun hHeld => ?_)
   clear hK K
   (try simp only [Act.put, putL])
   refine wpAnyH_take (i := 4) (v := ?_) rfl (by kernel_rfl) (by kernel_rfl) (by kernel_rfl) (fun _ _ _ h => h) (Or.inl ⟨by kernel_rfl, ?_⟩) hHeld ?_
   rotate_left
   ·(rintro W ⟨e0, _⟩; go_simp; (try with_reducible rfl))
   (try simp only [Act.put, putL])
   refine wpAnyH_take (i := 6) (v := ?_) rfl (by kernel_rfl) (by kernel_rfl) (by kernel_rfl) (fun _ _ _ h => h) (Or.inl ⟨by kernel_rfl, ?_⟩) hHeld ?_
   rotate_left
   ·(rintro W ⟨e0, _⟩; go_simp; (try with_reducible rfl))
   (try simp only [Act.put, putL])
   refine wpAnyH_take (i := 7) (v := ?_) rfl (by kernel_rfl) (by kernel_rfl) (by kernel_rfl) (fun _ _ _ h => h) (Or.inl ⟨by kernel_rfl, ?_⟩) hHeld ?_
   rotate_left
   ·(rintro W ⟨e0, _⟩; go_simp; (try with_reducible rfl))
   (try simp only [Act.put, putL])
   refine wpAnyH_ready (rs := [9]) (by kernel_rfl) (by simp) ?_
   refine AllReadyH.cons rfl (fun K hK => ?_) AllReadyH.nil
   go_simp
   refine (HLO.out _ hHeld.2).mono ?_
   rintro e w8 ⟨rfl, hk8⟩
   refine hK.out _ _ (⟨cell_on hHeld.1 hk8, below_then hHeld.2 hk8⟩) (fun hHeld => ?_)
   clear hK K
   (try simp only [Act.put, putL])
   refine wpAnyH_take (i := 10) (v := ?_) rfl (by kernel_rfl) (by kernel_rfl) (by kernel_rfl) (fun _ _ _ h => h) (Or.inl ⟨by kernel_rfl, ?_⟩) hHeld ?_
   rotate_left
   ·(rintro W ⟨e0, _⟩; go_simp; (try with_reducible rfl))
   (try simp only [Act.put, putL])
   refine wpAnyH_take (i := 11) (v := ?_) rfl (by kernel_rfl) (by kernel_rfl) (by kernel_rfl) (fun _ _ _ h => h) (Or.inl ⟨by kernel_rfl, ?_⟩) hHeld ?_
   rotate_left
   ·(rintro W ⟨e0, _⟩; go_simp; (try with_reducible rfl))
   (try simp only [Act.put, putL])
   refine wpAnyH_take (i := 12) (v := ?_) rfl (by kernel_rfl) (by kernel_rfl) (by kernel_rfl) (fun _ _ _ h => h) (Or.inl ⟨by kernel_rfl, ?_⟩) hHeld ?_
   rotate_left
   ·(rintro W ⟨e0, _⟩; go_simp; (try with_reducible rfl))
   (try simp only [Act.put, putL])
   refine wpAnyH_take (i := 13) (v := ?_) rfl (by kernel_rfl) (by kernel_rfl) (by kernel_rfl) (fun _ _ _ h => h) (Or.inl ⟨by kernel_rfl, ?_⟩) hHeld ?_
   rotate_left
   ·(rintro W ⟨e0, _⟩; go_simp; (try with_reducible rfl))
   (try simp only [Act.put, putL])
   refine wpAnyH_done (by kernel_rfl) ?_ _
   have HBf := Lib.hid (below_then HBd.out hHeld.2)
   clear hst hHeld
   go_wp2_with fail
   go_ret2
   exact ⟨A5, 0, rfl, HTi.out, HBf.out⟩
end Go.Proofs.YtbgimpeklblcjaaGreatDoor

namespace Go
open Go.RowKit
def xP : ByteArray := ⟨#[112]⟩
def xV1 : V4 := ⟨1, 0, 0, ⟨#[]⟩⟩
def xV2 : V4 := ⟨2, 0, 0, ⟨#[]⟩⟩
def xB : List Bnd := [⟨4, xV2⟩]
def xF (b : Nat) : Want × Value := (⟨[112], xB⟩, .slice (some ⟨b, 0, none⟩) 1 1)
def xO1 : DOff := ⟨xV1, false, [], none, 0⟩
def xO2 : DOff := ⟨xV2, true, [], none, 0⟩
def xNs (b : Nat) : List (Want × Value) := [xF b]
def xPs (c : Nat) : List DPack := [⟨xP, [xO1, xO2], some ⟨c, 0, none⟩, 2⟩]
def xTs : List DPack := [⟨xP, [], none, 0⟩]
theorem x_sel (b : Nat) : selL [] xP (xNs b) [xO1, xO2] = [] := rfl
theorem x_find (c : Nat) : findP (xPs c) (S [112]) = ⟨xP, [xO1, xO2], some ⟨c, 0, none⟩, 2⟩ := rfl
theorem x_err (b : Nat) : needErr (xNs b) = 0 := by show needErr [(⟨[112], xB⟩, Value.slice (some ⟨b, 0, none⟩) 1 1)] = 0; rfl
theorem x_table (b c : Nat) : TableIs [] (xNs b) (xPs c) xTs := by
 refine ⟨?_, fun a => ⟨fun h => ?_, fun h => ?_⟩, fun t ht => ?_⟩
 ·show ([[112]] : List Nam).Pairwise (· < ·)
  exact List.pairwise_cons.2 ⟨by simp, List.Pairwise.nil⟩
 ·have h : a ∈ ([[112]] : List Nam) := h
  simp only [List.mem_cons, List.not_mem_nil, or_false] at h
  subst h
  exact ⟨[112], by simp [xNs, xF, wname], .refl _⟩
 ·show a ∈ ([[112]] : List Nam)
  obtain ⟨s, hs, hg⟩ := h
  have hs2 : s ∈ ([[112]] : List Nam) := by simp [xNs, xF, wname] at hs; subst hs; simp
  refine closed_goes (fun x hx d hd => ?_) hs2 hg
  obtain ⟨o, ho, n, hn, rfl⟩ := hd
  simp only [List.mem_cons, List.not_mem_nil, or_false] at hx
  subst hx
  rw [x_find] at ho
  have ho : o ∈ selL [] xP (xNs b) [xO1, xO2] := ho
  rw [x_sel] at ho
  cases ho
 ·unfold xTs at ht
  simp only [List.mem_cons, List.not_mem_nil, or_false] at ht
  subst ht
  refine ⟨[], ⟨?_, List.Pairwise.nil⟩, SimOs.refl _⟩
  rw [show findP (xPs c) xP = _ from x_find c]
  show List.Perm [] (selL [] xP (xNs b) [xO1, xO2])
  rw [x_sel]
theorem x_table0 (c : Nat) : TableIs [] [] (xPs c) [] :=
 ⟨List.Pairwise.nil, fun a => ⟨(fun h => by cases h), fun ⟨s, hs, _⟩ => by simp at hs⟩, fun t ht => by cases ht⟩
theorem x_sol (b c : Nat) : SolIs [] (xNs b) (xPs c) 9 [] 0 250 := by
 refine .inr (.inr ⟨x_err b, by decide, by decide, xTs, x_table b c, none, .inr (.inl ⟨rfl, rfl, ?_⟩), rfl⟩)
 have : allW (ksOf (askN (xNs b)) (ppL xTs)) = [] := by show allW (ksOf (askN [(⟨[112], xB⟩, Value.slice (some ⟨b, 0, none⟩) 1 1)]) (ppL xTs)) = []; rfl
 rw [this]
 exact ⟨rfl, by decide, fun j hj => absurd hj (Nat.not_lt_zero _)⟩
theorem x_sol0 (c : Nat) : SolIs [] [] (xPs c) 9 [] 1 0 := by
 refine .inr (.inr ⟨rfl, by decide, by decide, [], x_table0 c, some [], .inl ⟨rfl, 0, ?_⟩, rfl⟩)
 have : allW (ksOf (askN []) (ppL [])) = [[]] := rfl
 rw [this]
 exact ⟨by decide, rfl, rfl, by decide, ⟨fun i hi => absurd hi (Nat.not_lt_zero _), fun i hi => absurd hi (Nat.not_lt_zero _)⟩, fun j _ h => absurd h (Nat.not_lt_zero _)⟩
theorem x_blame (b c : Nat) : BlameIs [] (xNs b) (xPs c) 9 1 0 := by
 refine .inr ⟨x_err b, 1, fun i hi => ?_, .inl ⟨Nat.le_refl _, ⟨[], 0, x_sol b c⟩, rfl, rfl⟩⟩
 have : i = 0 := by omega
 subst this
 exact ⟨[], 1, x_sol0 c⟩
theorem x_out : OutD (okO [xO1, xO2]) [xO2, xO1] := by
 have e : okO [xO1, xO2] = [xO1, xO2] := rfl
 rw [e]
 refine ⟨[(xO2, 1), (xO1, 0)], rfl, ?_, fun x => ⟨fun hx => ?_, fun ⟨i, hi, hx⟩ => ?_⟩⟩
 ·refine List.pairwise_cons.2 ⟨fun y hy => ?_, List.pairwise_cons.2 ⟨by simp, List.Pairwise.nil⟩⟩
  simp only [List.mem_cons, List.not_mem_nil, or_false] at hy
  subst hy
  exact .inl (by show V4.cmp xV1 xV2 < 0; decide)
 ·simp only [List.mem_cons, List.not_mem_nil, or_false] at hx
  rcases hx with rfl | rfl
  ·exact ⟨1, by decide, rfl⟩
  ·exact ⟨0, by decide, rfl⟩
 ·match i, hi with
  | 0, _ => subst hx; simp
  | 1, _ => subst hx; simp
/-- 'p >=2.0.0' 'of p: 2.0.0- 1.0.0' -/
def xT : ByteArray := ⟨#[112, 32, 62, 61, 50, 46, 48, 46, 48, 10, 111, 102, 32, 112, 58, 32, 50, 46, 48, 46, 48, 45, 32, 49, 46, 48, 46, 48, 10]⟩
theorem x_textL (b : Nat) : S (textL (xNs b) (0 + 1) (S [112]) [xO2, xO1]) = xT := by
 have h : textL (xNs b) (0 + 1) (S [112]) [xO2, xO1] = xT.data.toList := by
  show needT (⟨[112], xB⟩, Value.slice none 0 0) ++ [] ++ ([111, 102, 32] ++ ((S [112]).data.toList ++ (58 :: (([xO2, xO1].flatMap offT) ++ [10])))) = _
  decide +kernel
 rw [h]; exact S_of _
theorem x_text (b c : Nat) : TextIs (xNs b) (xPs c) 1 xT 0 :=
 .inr (.inr ⟨by show ¬ ((1 : Int) < 1 ∨ ((1 : Nat) : Int) < 1); decide, x_err b, rfl, 0, by show 0 < 1; decide, rfl, [xO2, xO1], x_out, (x_textL b).symm⟩)
def xL : List Pik := [⟨xP, xV1⟩]
theorem x_ok : xL.all Pik.ok = true := by decide +kernel
theorem x_show : showT xL = ⟨#[112, 32, 49, 46, 48, 46, 48, 10]⟩ ∧ showE xL = 0 := by
 obtain ⟨h1, h2⟩ := show_ok x_ok
 refine ⟨?_, h2⟩
 rw [h1]
 have h : xL.flatMap pikT = [112, 32, 49, 46, 48, 46, 48, 10] := by decide +kernel
 rw [h]; rfl
end Go

namespace Go
open Go.RowKit
theorem alloc5E (w : World) (o0 o1 o2 o3 o4 : Obj) :
  let W := ((((w.alloc o0).alloc o1).alloc o2).alloc o3).alloc o4
  (W.heap[w.heap.size]? = some o0 ∧ W.heap[w.heap.size + 1]? = some o1 ∧ W.heap[w.heap.size + 1 + 1]? = some o2 ∧ W.heap[w.heap.size + 1 + 1 + 1]? = some o3 ∧ W.heap[w.heap.size + 1 + 1 + 1 + 1]? = some o4) ∧ Below w.heap.size w W := by
 intro W
 have h0 := Below_heap_new w o0
 have h1 := Below_heap_new (w.alloc o0) o1
 have h2 := Below_heap_new ((w.alloc o0).alloc o1) o2
 have h3 := Below_heap_new (((w.alloc o0).alloc o1).alloc o2) o3
 have h4 := Below_heap_new ((((w.alloc o0).alloc o1).alloc o2).alloc o3) o4
 simp only [World.size_alloc] at h1 h2 h3 h4
 refine ⟨⟨new_alloc (new_alloc (new_alloc (new_alloc h0 _) _) _) _, new_alloc (new_alloc (new_alloc h1 _) _) _, new_alloc (new_alloc h2 _) _, new_alloc h3 _, h4⟩, ?_⟩
 exact (((((Below.refl _ _).alloc (by simp) _).alloc (by simp) _).alloc (by simp <;> omega) _).alloc (by simp <;> omega) _).alloc (by simp <;> omega) _
theorem row_blkE {w : World} {b : Nat} {T : TypeId} {cs : Array Value} {xs : List Value} {size n cap : Nat} (h : w.heap[b]? = some (.cells cs T)) (hcs : cs = xs.toArray) (hl : xs.length = n * size) (h0 : 0 < n) (hm : n ≤ maxLen) : Row w size (.slice (some ⟨b, 0, none⟩) n cap) n xs := by
 refine ⟨hl, hm, .inr ⟨b, 0, cap, rfl, h0, (Array.getElem?_eq_some_iff.1 h).1, fun j hj => ?_⟩⟩
 rw [blk_cells h, hcs, Nat.zero_add]; simp
/-- what the probe has laid -/
structure XAt (TB TN TO TP : TypeId) (B : Nat) (W : World) : Prop where
 b0 : W.heap[B]? = some (.cells #[.int .i64 1, .int .i64 0, .int .i64 0, .string ⟨#[]⟩, .bool false, .slice none 0 0, .int .i64 2, .int .i64 0, .int .i64 0, .string ⟨#[]⟩, .bool true, .slice none 0 0] TO)
 b1 : W.heap[B + 1]? = some (.cells #[.string xP, .slice (some ⟨B, 0, none⟩) 2 2] TP)
 b2 : W.heap[B + 1 + 1]? = some (.cells #[.int .i64 4, .int .i64 2, .int .i64 0, .int .i64 0, .string ⟨#[]⟩] TB)
 b3 : W.heap[B + 1 + 1 + 1]? = some (.cells #[.string xP, .slice (some ⟨B + 1 + 1, 0, none⟩) 1 1] TN)
section
variable {TB TN TO TP : TypeId} {B : Nat} {W W' : World}
theorem XAt.on (h : XAt TB TN TO TP B W) (hb : Below W.heap.size W W') : XAt TB TN TO TP B W' := by
 have lt : ∀ {i : Nat} {o : Obj}, W.heap[i]? = some o → W'.heap[i]? = some o := fun {i o} hi => (hb.block i (Array.getElem?_eq_some_iff.1 hi).1).trans hi
 exact ⟨lt h.b0, lt h.b1, lt h.b2, lt h.b3⟩
theorem XAt.needs (h : XAt TB TN TO TP B W) : Wants W (.slice (some ⟨B + 1 + 1 + 1, 0, none⟩) 1 1) (xNs (B + 1 + 1)) :=
 ⟨row_blkE h.b3 rfl rfl (by decide) (by unfold maxLen; decide), fun x hx => by
  simp [xNs] at hx; subst hx
  exact ⟨row_blkE h.b2 rfl rfl (by decide) (by unfold maxLen; decide), _, _, rfl⟩⟩
theorem XAt.packs (h : XAt TB TN TO TP B W) {bp : Nat} (hp : W.heap[bp]? = some (.cells #[.string xP, .slice (some ⟨B, 0, none⟩) 2 2] TP)) : Packs W (.slice (some ⟨bp, 0, none⟩) 1 1) (xPs B) := by
 refine ⟨row_blkE hp rfl rfl (by decide) (by unfold maxLen; decide), fun p hx => ?_⟩
 simp [xPs] at hx; subst hx
 refine ⟨⟨row_blkE h.b0 rfl rfl (by show 0 < 2; decide) (by show 2 ≤ maxLen; unfold maxLen; decide), fun o ho => ?_⟩, _, _, rfl⟩
 simp only [List.mem_cons, List.not_mem_nil, or_false] at ho
 rcases ho with rfl | rfl
 ·exact ⟨Wants.nil _, _, _, rfl⟩
 ·exact ⟨Wants.nil _, _, _, rfl⟩
end
theorem x_small (b c : Nat) : SmallP (xPs c) [] (xNs b) := by
 refine ⟨by show 1 ≤ 30; decide, Nat.zero_le _, fun p hp => ?_, (fun x hx => by cases hx), by show 1 ≤ 30; decide, fun x hx => ?_⟩
 ·simp [xPs] at hp; subst hp
  refine ⟨by show 2 ≤ 100; decide, fun o ho => ?_⟩
  simp only [List.mem_cons, List.not_mem_nil, or_false] at ho
  rcases ho with rfl | rfl
  ·exact ⟨by show 0 ≤ 60; decide, Nat.zero_le _, fun x hx => by cases hx⟩
  ·exact ⟨by show 0 ≤ 60; decide, Nat.zero_le _, fun x hx => by cases hx⟩
 ·simp [xNs] at hx; subst hx
  refine ⟨by show 1 ≤ 30; decide, by show 1 ≤ 100; decide, fun b hb => ?_⟩
  simp [xF, xB] at hb; subst hb
  show 0 ≤ 60; decide
end Go
namespace Go.Proofs.YtbgimpeklblcjaaGreatDoor
open Go.RowKit Go.Maps
set_option maxRecDepth 100000 in
set_option maxHeartbeats 8000000 in
theorem exAwake_any (w : World) (hE : EnvI w) : Calls Tryz.prog 10 #[] w fun e w' => e = .returned (.bool true) ∧ Below w.heap.size w w' := by
 have HE := Lib.hid hE
 have h5 := alloc5E w (.cells #[.int .i64 1, .int .i64 0, .int .i64 0, .string ⟨#[]⟩, .bool false, .slice none 0 0, .int .i64 2, .int .i64 0, .int .i64 0, .string ⟨#[]⟩, .bool true, .slice none 0 0] 55) (.cells #[.string ⟨#[112]⟩, .slice (some ⟨w.heap.size, 0, none⟩) 2 2] 52) (.cells #[.int .i64 4, .int .i64 2, .int .i64 0, .int .i64 0, .string ⟨#[]⟩] 64) (.cells #[.string ⟨#[112]⟩, .slice (some ⟨w.heap.size + 1 + 1, 0, none⟩) 1 1] 60) (.cells #[.string ⟨#[112]⟩, .slice (some ⟨w.heap.size, 0, none⟩) 2 2] 52)
 obtain ⟨⟨b0, b1, b2, b3, b4⟩, hbw⟩ := h5
 have hx : XAt 64 60 55 52 w.heap.size (((((w.alloc (.cells #[.int .i64 1, .int .i64 0, .int .i64 0, .string ⟨#[]⟩, .bool false, .slice none 0 0, .int .i64 2, .int .i64 0, .int .i64 0, .string ⟨#[]⟩, .bool true, .slice none 0 0] 55)).alloc (.cells #[.string ⟨#[112]⟩, .slice (some ⟨w.heap.size, 0, none⟩) 2 2] 52)).alloc (.cells #[.int .i64 4, .int .i64 2, .int .i64 0, .int .i64 0, .string ⟨#[]⟩] 64)).alloc (.cells #[.string ⟨#[112]⟩, .slice (some ⟨w.heap.size + 1 + 1, 0, none⟩) 1 1] 60)).alloc (.cells #[.string ⟨#[112]⟩, .slice (some ⟨w.heap.size, 0, none⟩) 2 2] 52)) := ⟨b0, b1, b2, b3⟩
 have HX := Lib.hid hx
 have HB := Lib.hid hbw
 have HBl := Lib.hid (blame_as (x_small (w.heap.size + 1 + 1) w.heap.size) (hx.packs b4) (piks_nil _) hx.needs (fun a n c h => by injection h with _ h1 h2; omega) (hE.env.below hbw) 9 (by decide) (by decide))
 clear hE b0 b1 b2 b3 b4 hx hbw
 go_enter Tryz.func10, Tryz.ntmps10
 go_wp2_with fail
 generalize ((((w.alloc (.cells #[.int .i64 1, .int .i64 0, .int .i64 0, .string ⟨#[]⟩, .bool false, .slice none 0 0, .int .i64 2, .int .i64 0, .int .i64 0, .string ⟨#[]⟩, .bool true, .slice none 0 0] 55)).alloc (.cells #[.string ⟨#[112]⟩, .slice (some ⟨w.heap.size, 0, none⟩) 2 2] 52)).alloc (.cells #[.int .i64 4, .int .i64 2, .int .i64 0, .int .i64 0, .string ⟨#[]⟩] 64)).alloc (.cells #[.string ⟨#[112]⟩, .slice (some ⟨w.heap.size + 1 + 1, 0, none⟩) 1 1] 60)).alloc (.cells #[.string ⟨#[112]⟩, .slice (some ⟨w.heap.size, 0, none⟩) 2 2] 52) = w5 at *
 refine HBl.out.mono ?_
 rintro e w6 ⟨k, er, rfl, hbl, hb6⟩
 obtain ⟨rfl, rfl⟩ := hbl.uniq (x_blame _ _)
 have HX6 := Lib.hid (HX.out.on hb6)
 have HB6 := Lib.hid (below_then HB.out hb6)
 have d0 := blk_cells HX6.out.b1 0
 have d1 := blk_cells HX6.out.b1 1
 simp only [List.getElem?_toArray, List.getElem?_cons_zero, List.getElem?_cons_succ] at d0 d1
 have hal := (Below.refl w6.heap.size w6).alloc (Nat.le_refl _) (.cells #[.string ⟨#[112]⟩, .slice (some ⟨w.heap.size, 0, none⟩) 2 2] 52)
 have HX7 := Lib.hid (HX6.out.on hal)
 have HB7 := Lib.hid (below_then HB6.out hal)
 have hnew := Below_heap_new w6 (.cells #[.string ⟨#[112]⟩, .slice (some ⟨w.heap.size, 0, none⟩) 2 2] 52)
 have HTx := Lib.hid (exText_any _ _ _ _ 1 _ (HX7.out.packs hnew) HX7.out.needs (fun a n c h => by injection h with _ h1 h2; omega) (HE.out.below HB7.out) (x_small (w.heap.size + 1 + 1) w.heap.size).nd (x_small (w.heap.size + 1 + 1) w.heap.size).os)
 clear hbl hb6 hal hnew HBl
 go_wp2_with fail
 refine HTx.out.mono ?_
 rintro e w8 ⟨T, er, rfl, htx, hb8⟩
 obtain ⟨hT, rfl⟩ := htx.uniq (x_text _ _)
 have hT : T = ⟨#[112, 32, 62, 61, 50, 46, 48, 46, 48, 10, 111, 102, 32, 112, 58, 32, 50, 46, 48, 46, 48, 45, 32, 49, 46, 48, 46, 48, 10]⟩ := hT
 subst hT
 have HB8 := Lib.hid (below_then HB7.out hb8)
 have hal := (Below.refl w8.heap.size w8).alloc (Nat.le_refl _) (.cells #[.string ⟨#[112]⟩, .int .i64 1, .int .i64 0, .int .i64 0, .string ⟨#[]⟩] 43)
 have HB9 := Lib.hid (below_then HB8.out hal)
 have hnew := Below_heap_new w8 (.cells #[.string ⟨#[112]⟩, .int .i64 1, .int .i64 0, .int .i64 0, .string ⟨#[]⟩] 43)
 have hpk : Piks (w8.alloc (.cells #[.string ⟨#[112]⟩, .int .i64 1, .int .i64 0, .int .i64 0, .string ⟨#[]⟩] 43)) (.slice (some ⟨w8.heap.size, 0, none⟩) 1 1) xL := row_blkE hnew rfl rfl (by decide) (by unfold maxLen; decide)
 have hsh := exShow_any _ xL _ hpk (HE.out.below HB9.out) (fun x hx => by simp [xL] at hx; subst hx; show 0 ≤ 300; decide) (by decide)
 rw [x_show.1, x_show.2] at hsh
 have HSh := Lib.hid hsh
 clear htx hb8 hal hnew hpk hsh d0 d1 HTx
 go_wp2_with fail
 refine HSh.out.mono ?_
 rintro e w10 ⟨rfl, hb10⟩
 have HB10 := Lib.hid (below_then HB9.out hb10)
 clear hb10
 go_wp2_with fail
 go_ret
 exact ⟨rfl, HB10.out⟩
end Go.Proofs.YtbgimpeklblcjaaGreatDoor
