/- Explain: the order of a package's offers, newest first; what is told of it. -/
import Derived.Test.YtllkiedikjgkbaaGreatDoorExNeed
import Derived.Test.YtllkiedikjgkbaaGreatDoorChOffers
import Derived.Test.YtllkiedikjgkbaaGreatDoorChChk
namespace Go
open Go.RowKit
def cmpD (x y : DOff) : Int := V4.cmp y.v x.v
theorem good_cmpD : OrdG cmpD := (good_flip good_v4).comap fun x : DOff => x.v
/-- a row in order, newest first; what is as new stays as it stood -/
def OutD (sel out : List DOff) : Prop := ∃ l : List (DOff × Nat), out = l.map Prod.fst ∧ l.Pairwise (Stab.lt cmpD) ∧ ∀ x, x ∈ l ↔ ∃ i, ∃ h : i < sel.length, x = (sel[i], i)
theorem OutD.uniq {sel a b : List DOff} (h : OutD sel a) (h' : OutD sel b) : a = b := by
  obtain ⟨l, rfl, h1, h2⟩ := h
  obtain ⟨m, rfl, g1, g2⟩ := h'
  rw [pairwise_uniq (Stab.lt_irrefl good_cmpD) (fun _ _ _ => Stab.lt_trans good_cmpD) h1 g1 fun x => (h2 x).trans (g2 x).symm]
theorem OutD.nil : OutD [] [] := ⟨[], rfl, List.Pairwise.nil, fun x => by simp⟩
theorem OutD.mem {sel out : List DOff} (h : OutD sel out) : ∀ o ∈ out, o ∈ sel := by
  obtain ⟨l, rfl, _, h2⟩ := h
  intro o ho
  obtain ⟨x, hx, rfl⟩ := List.mem_map.1 ho
  obtain ⟨i, hi, rfl⟩ := (h2 x).1 hx
  exact List.getElem_mem hi
theorem sorted_D {sel : List DOff} {k : Nat → DOff × Nat} {n : Nat} (hn : sel.length = n) (hp : Stab.Perm 0 n (seqOf sel) k) (hs : Stab.Srt cmpD 0 n k) :
    ∃ out, OutD sel out ∧ out.length = n ∧ flat6 dsix n k = out.flatMap DOff.cells := by
  obtain ⟨σ, s1, s2, s3, s4⟩ := hp
  have hk : ∀ i, i < n → ∃ h : σ i < sel.length, k i = (sel[σ i], σ i) := fun i hi => by
    have := (s2 i (Nat.zero_le _) hi).2
    refine ⟨by omega, ?_⟩
    rw [s4]
    exact Prod.ext (seq_get sel (by omega)) rfl
  refine ⟨(List.range n).map fun i => (k i).1, ⟨(List.range n).map k, by rw [List.map_map]; rfl, ?_, fun x => ⟨fun hx => ?_, fun ⟨i, hi, hx⟩ => ?_⟩⟩, by simp, flat6_map n k⟩
  · refine List.pairwise_map.2 (List.pairwise_iff_getElem.2 fun i j hi hj hij => ?_)
    simp only [List.length_range] at hi hj
    simp only [List.getElem_range]
    exact hs i j (Nat.zero_le _) hij hj
  · obtain ⟨i, hi, rfl⟩ := List.mem_map.1 hx
    obtain ⟨h1, h2⟩ := hk i (List.mem_range.1 hi)
    exact ⟨σ i, h1, h2⟩
  · obtain ⟨j, hj, e⟩ := onto_below (σ := σ) (n := n) (fun i hi => (s2 i (Nat.zero_le _) hi).2) s3 i (by omega)
    obtain ⟨h1, h2⟩ := hk j hj
    refine List.mem_map.2 ⟨j, List.mem_range.2 hj, ?_⟩
    rw [h2, hx]
    subst e; rfl
def okO (os : List DOff) : List DOff := os.filter fun o => o.v.ok
/-- what is told of the first needs -/
def textL (needs : List (Want × Value)) (k : Nat) (nm : ByteArray) (out : List DOff) : List UInt8 :=
  (needs.take k).flatMap needT ++ ([111, 102, 32] ++ (nm.data.toList ++ (58 :: (out.flatMap offT ++ [10]))))
def TextIs (needs : List (Want × Value)) (ps : List DPack) (k : Int) (T : ByteArray) (e : Int) : Prop :=
  ((k < 1 ∨ (needs.length : Int) < k) ∧ T = ⟨#[]⟩ ∧ e = 2) ∨ (¬ (k < 1 ∨ (needs.length : Int) < k) ∧ needErr needs ≠ 0 ∧ T = ⟨#[]⟩ ∧ e = needErr needs) ∨
  (¬ (k < 1 ∨ (needs.length : Int) < k) ∧ needErr needs = 0 ∧ e = 0 ∧ ∃ m, ∃ h : m < needs.length, k = (m : Int) + 1 ∧ ∃ out, OutD (okO (findP ps (S needs[m].1.name)).os) out ∧ T = S (textL needs (m + 1) (S needs[m].1.name) out))
theorem TextIs.uniq {needs : List (Want × Value)} {ps : List DPack} {k : Int} {T T' : ByteArray} {e e' : Int} (h : TextIs needs ps k T e) (h' : TextIs needs ps k T' e') : T = T' ∧ e = e' := by
  rcases h with ⟨h1, h2, h3⟩ | ⟨h1, h2, h3, h4⟩ | ⟨h1, h2, h3, m, hm, hk, out, ho, hT⟩ <;> rcases h' with ⟨g1, g2, g3⟩ | ⟨g1, g2, g3, g4⟩ | ⟨g1, g2, g3, m', hm', hk', out', ho', hT'⟩
  · exact ⟨by rw [h2, g2], by rw [h3, g3]⟩
  · exact absurd h1 g1
  · exact absurd h1 g1
  · exact absurd g1 h1
  · exact ⟨by rw [h3, g3], by rw [h4, g4]⟩
  · exact absurd g2 h2
  · exact absurd g1 h1
  · exact absurd h2 g2
  · have e : m = m' := by omega
    subst e
    have := ho.uniq ho'
    subst this
    exact ⟨by rw [hT, hT'], by rw [h3, g3]⟩
theorem needErr_each : ∀ {xs : List (Want × Value)}, needErr xs = 0 → ∀ x ∈ xs, nameOk x.1.name = true ∧ rangeOk x.1.bs = true
  | [], _, x, hx => by cases hx
  | y :: xs, h, x, hx => by
    unfold needErr at h
    split at h
    · rename_i hy
      rcases List.mem_cons.1 hx with rfl | hx
      · unfold wantErr at hy
        split at hy
        · rename_i hn
          unfold rangeErr at hy
          split at hy
          · rename_i hr
            exact ⟨hn, hr⟩
          · cases hy
        · cases hy
      · exact needErr_each h x hx
    · rename_i hy; exact absurd h hy
end Go
namespace Go.Proofs.YtllkiedikjgkbaaGreatDoor
open Go.RowKit Go.Maps
set_option maxRecDepth 100000 in
set_option maxHeartbeats 4000000 in
theorem cmpD_any (x y : DOff) (w : World) (hE : Env w) (hx : x.v.p.size ≤ 300) (hy : y.v.p.size ≤ 300) :
    Calls Tryz.prog 80 #[.agg #[.int .i64 x.v.a, .int .i64 x.v.b, .int .i64 x.v.c, .string x.v.p, .bool x.y, x.nv], .agg #[.int .i64 y.v.a, .int .i64 y.v.b, .int .i64 y.v.c, .string y.v.p, .bool y.y, y.nv]] w fun e w' => e = .returned (.int .i64 (cmpD x y)) ∧ Below w.heap.size w w' := by
  have hx1 := Below.refl (w.heap.size + 1) (w.alloc (.cells #[.int .i64 x.v.a, .int .i64 x.v.b, .int .i64 x.v.c, .string x.v.p, .bool x.y, x.nv] 39))
  have hx2 := hx1.alloc (by simp) (.cells #[.int .i64 y.v.a, .int .i64 y.v.b, .int .i64 y.v.c, .string y.v.p, .bool y.y, y.nv] 39)
  have hW := below_first hx2
  obtain ⟨c0, c1, c2, c3⟩ := box_ver hx2
  have hsz : (w.alloc (.cells #[.int .i64 x.v.a, .int .i64 x.v.b, .int .i64 x.v.c, .string x.v.p, .bool x.y, x.nv] 39)).heap.size = w.heap.size + 1 := by simp
  have hy1 := Below.refl ((w.alloc (.cells #[.int .i64 x.v.a, .int .i64 x.v.b, .int .i64 x.v.c, .string x.v.p, .bool x.y, x.nv] 39)).heap.size + 1) ((w.alloc (.cells #[.int .i64 x.v.a, .int .i64 x.v.b, .int .i64 x.v.c, .string x.v.p, .bool x.y, x.nv] 39)).alloc (.cells #[.int .i64 y.v.a, .int .i64 y.v.b, .int .i64 y.v.c, .string y.v.p, .bool y.y, y.nv] 39))
  obtain ⟨d0, d1, d2, d3⟩ := box_ver hy1
  rw [hsz] at d0 d1 d2 d3
  have HC := Lib.hid (cmpP_any y.v.a y.v.b y.v.c y.v.p x.v.a x.v.b x.v.c x.v.p _ (hE.below hW) hy hx)
  have HW := Lib.hid hW
  clear hx1 hx2 hy1 hsz hW hE
  go_enter Tryz.func80, Tryz.ntmps80
  go_wp2_with fail
  refine HC.out.mono ?_
  rintro e w2 ⟨rfl, hb2⟩
  have HB2 := Lib.hid (below_then HW.out hb2)
  clear hb2 c0 c1 c2 c3 d0 d1 d2 d3
  go_wp2_with fail
  go_ret
  exact ⟨rfl, HB2.out⟩
end Go.Proofs.YtllkiedikjgkbaaGreatDoor
