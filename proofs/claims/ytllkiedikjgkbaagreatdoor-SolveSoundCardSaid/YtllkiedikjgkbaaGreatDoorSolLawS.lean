/- SolveSound: what is told goes together, meets all needs, and has no yanked version that is not locked. The law returns true. -/
import Derived.Test.YtllkiedikjgkbaaGreatDoorSolGd
namespace Go
open Go.RowKit
theorem SolIs.few {lock : List Pik} {needs : List (Want × Value)} {ps : List DPack} {budget : Int} {r : List Pik} {n : Nat} (h : SolIs lock needs ps budget r n 0) (hB : ∀ ts, TableIs lock needs ps ts → TabB (ppL ts)) : r.length ≤ 1000000 := by
  obtain ⟨_, _, ts, ht, ws, hw, hg, rfl⟩ := h.ok
  have h1 := (hB ts ht).few
  unfold picksL picksTo
  refine Nat.le_trans (List.length_filterMap_le _ _) ?_
  rw [List.length_range]; exact h1
theorem SolIs.up {lock : List Pik} {needs : List (Want × Value)} {ps : List DPack} {budget : Int} {r : List Pik} {n : Nat} (h : SolIs lock needs ps budget r n 0) {k : Nat} (h0 : 0 < k) (hk : k < r.length) : Op.bytesLess (r[k - 1]'(by omega)).name.toList r[k].name.toList = true := by
  rw [bLess, Lib.toList_data, Lib.toList_data]
  exact decide_eq_true (List.pairwise_iff_getElem.1 h.rise (k - 1) k (by omega) hk (by omega))
def hitP (d : Want × Value) (x : Pik) : Bool := decide (x.name = S d.1.name) && meetsR x.v d.1.bs
theorem SolIs.hit {lock : List Pik} {needs : List (Want × Value)} {ps : List DPack} {budget : Int} {r : List Pik} {n : Nat} (h : SolIs lock needs ps budget r n 0) {d : Want × Value} (hd : d ∈ needs) : r.any (hitP d) = true := by
  obtain ⟨x, hx, h1, h2⟩ := h.meets d hd
  exact List.any_eq_true.2 ⟨x, hx, by unfold hitP; rw [h2, decide_eq_true h1]; rfl⟩
theorem SolIs.pre {lock : List Pik} {needs : List (Want × Value)} {ps : List DPack} {budget : Int} {r : List Pik} {n : Nat} (h : SolIs lock needs ps budget r n 0) (hS : SmallP ps lock needs) : ∀ x ∈ r, x.v.p.size ≤ 300 := fun x hx => by
  obtain ⟨o, ho, h1, _⟩ := h.good x hx
  obtain ⟨p, hp, hop⟩ := findP_os ho
  have := ((hS.os p hp).2 o hop).1
  rw [← h1]; omega
/-- what the regions look at -/
def SdS (g : Nat) (pk lk nv : Value) (b q : Nat) (x : Pik) (u : ByteArray) (z : Nat) (w0 W : World) : Prop :=
  (W.cell? ⟨g, 0, none⟩ = some pk ∧ W.cell? ⟨g, 1, none⟩ = some lk ∧ W.cell? ⟨g, 2, none⟩ = some nv) ∧ (W.cell? ⟨b, q, none⟩ = some (.string x.name) ∧ W.cell? ⟨b, q + 1, none⟩ = some (.int .i64 x.v.a) ∧ W.cell? ⟨b, q + 2, none⟩ = some (.int .i64 x.v.b) ∧ W.cell? ⟨b, q + 3, none⟩ = some (.int .i64 x.v.c) ∧ W.cell? ⟨b, q + 4, none⟩ = some (.string x.v.p)) ∧ W.cell? ⟨b, z, none⟩ = some (.string u) ∧ Below w0.heap.size w0 W
theorem SdS.on {g : Nat} {pk lk nv : Value} {b q : Nat} {x : Pik} {u : ByteArray} {z : Nat} {w0 W W' : World} (h : SdS g pk lk nv b q x u z w0 W) (hb : Below W.heap.size W W') : SdS g pk lk nv b q x u z w0 W' := by
  obtain ⟨⟨a0, a1, a2⟩, ⟨b0, b1, b2, b3, b4⟩, c, d⟩ := h
  exact ⟨⟨cell_on a0 hb, cell_on a1 hb, cell_on a2 hb⟩, ⟨cell_on b0 hb, cell_on b1 hb, cell_on b2 hb, cell_on b3 hb, cell_on b4 hb⟩, cell_on c hb, below_then d hb⟩
def SmS (g : Nat) (nv : Value) (b q : Nat) (x : Pik) (bn qn : Nat) (un : ByteArray) (rv : Value) (w0 W : World) : Prop :=
  W.cell? ⟨g, 2, none⟩ = some nv ∧ (W.cell? ⟨b, q, none⟩ = some (.string x.name) ∧ W.cell? ⟨b, q + 1, none⟩ = some (.int .i64 x.v.a) ∧ W.cell? ⟨b, q + 2, none⟩ = some (.int .i64 x.v.b) ∧ W.cell? ⟨b, q + 3, none⟩ = some (.int .i64 x.v.c) ∧ W.cell? ⟨b, q + 4, none⟩ = some (.string x.v.p)) ∧ (W.cell? ⟨bn, qn, none⟩ = some (.string un) ∧ W.cell? ⟨bn, qn + 1, none⟩ = some rv) ∧ Below w0.heap.size w0 W
theorem SmS.on {g : Nat} {nv : Value} {b q : Nat} {x : Pik} {bn qn : Nat} {un : ByteArray} {rv : Value} {w0 W W' : World} (h : SmS g nv b q x bn qn un rv w0 W) (hb : Below W.heap.size W W') : SmS g nv b q x bn qn un rv w0 W' := by
  obtain ⟨a2, ⟨b0, b1, b2, b3, b4⟩, ⟨c0, c1⟩, d⟩ := h
  exact ⟨cell_on a2 hb, ⟨cell_on b0 hb, cell_on b1 hb, cell_on b2 hb, cell_on b3 hb, cell_on b4 hb⟩, ⟨cell_on c0 hb, cell_on c1 hb⟩, below_then d hb⟩
end Go
namespace Go.Proofs.YtllkiedikjgkbaaGreatDoor
open Go.RowKit Go.Maps
def SiRel (n : Nat) (g : Nat) (pk lk nv : Value) (w w4 : World) (i : Value) (wr : World) : Prop :=
  ∃ k : Nat, k ≤ n ∧ i = .int .i64 (k : Int) ∧ CaS g pk lk nv w wr ∧ Below w4.heap.size w4 wr
def SjRel (r : List Pik) (d : Want × Value) (g : Nat) (pk lk nv : Value) (w w4 w5 : World) (u i : Value) (wr : World) : Prop :=
  ∃ (m : Nat) (b : Bool), m ≤ r.length ∧ i = .int .i64 (m : Int) ∧ u = .bool b ∧ (r.take m).any (hitP d) = b ∧ CaS g pk lk nv w wr ∧ Below w4.heap.size w4 wr ∧ Below w5.heap.size w5 wr
set_option maxRecDepth 100000 in
set_option maxHeartbeats 4000000 in
theorem solveSound_any (pk lk nv : Value) (ps : List DPack) (lock : List Pik) (needs : List (Want × Value)) (bud : Int) (w : World)
    (hp : Packs w pk ps) (hl : Piks w lk lock) (hn : Wants w nv needs) (h0 : -9223372036854775808 ≤ bud) (h1 : bud ≤ 9223372036854775807) (hE : Env w) :
    Calls Tryz.prog 8 #[.agg #[pk, lk, nv], .int .i64 bud] w fun e w' => e = .returned (.bool true) ∧ Below w.heap.size w w' := by
  obtain ⟨hmn, na, nc, rfl⟩ := hn.len
  have hmn2 : needs.length ≤ 9223372036854775807 := Nat.le_trans hmn (by decide)
  have hx1 := Below.refl (w.heap.size + 1) (w.alloc (.cells #[pk, lk, .slice na needs.length nc] 26))
  have hW1 := below_first hx1
  have HSm := Lib.hid (small_any pk lk (.slice na needs.length nc) ps lock needs _ (hp.below hW1 (Nat.le_refl _)) (hl.below hW1 (Nat.le_refl _)) (hn.below hW1 (Nat.le_refl _)))
  have c0 := box_cells hx1 0
  have c1 := box_cells hx1 1
  have c2 := box_cells hx1 2
  simp only [List.getElem?_toArray, List.getElem?_cons_zero, List.getElem?_cons_succ] at c0 c1 c2
  have HX := Lib.hid (⟨hp, hl, hn⟩ : _ ∧ _ ∧ _)
  have HE := Lib.hid hE
  have HW1 := Lib.hid hW1
  have HBud := Lib.hid (⟨h0, h1⟩ : _ ∧ _)
  have HA : Hid (∀ W, Below w.heap.size w W → Calls Tryz.prog 25 #[] W fun e w' => e = .returned (.bool true) ∧ Below W.heap.size W w') := fun W hW => solAwake_any W (HE.out.below hW)
  clear hp hl hn hE hx1 hW1 h0 h1 hmn
  go_enter Tryz.func8, Tryz.ntmps8
  go_wp2_with fail
  refine HSm.out.mono ?_
  rintro e w2 ⟨⟨b, rfl, hS⟩, hb2⟩
  have hB2 := below_then HW1.out hb2
  have d0 := cell_on c0 hb2
  have d1 := cell_on c1 hb2
  have d2 := cell_on c2 hb2
  have HB2 := Lib.hid hB2
  have HS := Lib.hid hS
  clear c0 c1 c2 hB2 hb2 hS
  cases b
  case false =>
    go_wp2_with fail
    refine (HA.out _ HB2.out).mono ?_
    rintro e wz ⟨rfl, hbz⟩
    have hbf := HB2.out.trans (hbz.mono HB2.out.size)
    clear d0 d1 d2 hbz
    go_wp2_with fail
    go_ret
    exact ⟨rfl, hbf⟩
  have HSp := Lib.hid (HS.out rfl)
  by_cases gc : 20000 < bud
  · have qc : decide (20000 < bud) = true := decide_eq_true gc
    clear gc
    go_wp2_with fail
    refine (HA.out _ HB2.out).mono ?_
    rintro e wz ⟨rfl, hbz⟩
    have hbf := HB2.out.trans (hbz.mono HB2.out.size)
    clear d0 d1 d2 hbz
    go_wp2_with fail
    go_ret
    exact ⟨rfl, hbf⟩
  have qc : decide (20000 < bud) = false := decide_eq_false gc
  have C := SmallP.ctx HSp.out (HX.out.1.below HB2.out (Nat.le_refl _)) (HX.out.2.1.below HB2.out (Nat.le_refl _)) (HX.out.2.2.below HB2.out (Nat.le_refl _)) (HE.out.below HB2.out)
  have HC := Lib.hid C
  have HSo := Lib.hid (solve_as C (fun ts ht => small_tab HSp.out ht) bud HBud.out.1 HBud.out.2)
  clear C gc
  go_wp2_with fail
  refine HSo.out.mono ?_
  rintro e w3 ⟨v1, r1, n1, e1, rfl, hs1, hp1, hb3⟩
  have HB3 := Lib.hid (HB2.out.trans (hb3.mono HB2.out.size))
  have HC3 := Lib.hid (HC.out.on hb3)
  have f0 := cell_on d0 hb3
  have f1 := cell_on d1 hb3
  have f2 := cell_on d2 hb3
  clear d0 d1 d2 hb3
  by_cases he : e1 = 0
  case neg =>
    have q0 : (e1 != 0) = true := bne_iff_ne.2 he
    obtain ⟨rfl, hn⟩ := hs1.err he
    obtain ⟨ya, yc, hv⟩ : ∃ a c, v1 = .slice a 0 c := hp1.len
    subst hv
    by_cases h251 : e1 = 251
    · subst h251
      have q1 : ((n1 : Int) == bud) = true := beq_iff_eq.2 (hn rfl)
      clear hn hs1 hp1 he q0
      go_wp2_with fail
      refine (HA.out _ HB3.out).mono ?_
      rintro e wz ⟨rfl, hbz⟩
      have hbf := HB3.out.trans (hbz.mono HB3.out.size)
      clear f0 f1 f2 hbz
      go_wp2_with fail
      go_ret
      exact ⟨rfl, hbf⟩
    · have q1 : (e1 != 251) = true := bne_iff_ne.2 h251
      clear hn hs1 hp1 he h251
      go_wp2_with fail
      refine (HA.out _ HB3.out).mono ?_
      rintro e wz ⟨rfl, hbz⟩
      have hbf := HB3.out.trans (hbz.mono HB3.out.size)
      clear f0 f1 f2 hbz
      go_wp2_with fail
      go_ret
      exact ⟨rfl, hbf⟩
  subst he
  obtain ⟨hn1, hnb, _⟩ := hs1.ok
  have hrl := hs1.few (fun ts ht => small_tab HSp.out ht)
  obtain ⟨ya, yc, rfl⟩ := hp1.len
  have HHo := Lib.hid (solHolds_as HC3.out (fun ts ht => small_tab HSp.out ht) hp1 ⟨_, _, rfl⟩ hrl)
  have HS1 := Lib.hid hs1
  have HP1 := Lib.hid hp1
  have q1 : decide ((n1 : Int) < 1) = false := decide_eq_false (by omega)
  have q2 : decide (bud < (n1 : Int)) = false := decide_eq_false (by omega)
  have hrl2 : r1.length ≤ 9223372036854775807 := by omega
  clear hs1 hp1 hn1 hnb hrl
  go_wp2_with fail
  refine HHo.out.mono ?_
  rintro e w4 ⟨b, rfl, ⟨ts, hts, hiff⟩, hb4⟩
  obtain rfl : b = true := hiff.2 (HS1.out.holds hts)
  have HB4 := Lib.hid (HB3.out.trans (hb4.mono HB3.out.size))
  have HC4 := Lib.hid (HC3.out.on hb4)
  have HP4 := Lib.hid (HP1.out.below hb4 (Nat.le_refl _))
  have HCa : Hid (CaS w.heap.size pk lk (.slice na needs.length nc) w w4) := ⟨cell_on f0 hb4, cell_on f1 hb4, cell_on f2 hb4, HB4.out⟩
  clear f0 f1 f2 hb4 hts hiff
  go_wp2_with fail
  go_loopw [8] (fun i wr => SiRel r1.length w.heap.size pk lk (.slice na needs.length nc) w w4 i wr) (fun i _ => r1.length - (intOf i).toNat)
  case atStart => exact ⟨0, Nat.zero_le _, rfl, HCa.out, Below.refl _ _⟩
  case round =>
    obtain ⟨k, hk, rfl, hca, hb5⟩ := hrel
    have HCr := Lib.hid hca
    have HB5 := Lib.hid hb5
    by_cases hlt : k < r1.length
    · have i0 : (0 : Int) ≤ (k : Int) := by omega
      have i1 : (k : Int) < (r1.length : Int) := by omega
      obtain ⟨bx, ox, rfl, hbx, hcp⟩ := HP4.out.row hb5 hlt
      obtain ⟨e0, e1, e2, e3, e4⟩ := hcp k hlt
      have HGd := Lib.hid (HS1.out.good r1[k] (List.getElem_mem hlt))
      have hup : 0 < k → Op.bytesLess (r1[k - 1]'(by omega)).name.toList r1[k].name.toList = true := fun h => HS1.out.up h hlt
      have hpv : 0 < k → wr.cell? ⟨bx, ox + (k - 1) * 5, none⟩ = some (.string (r1[k - 1]'(by omega)).name) := fun h => (hcp (k - 1) (by omega)).1
      generalize hxe : r1[k]'hlt = x at e0 e1 e2 e3 e4 HGd hup
      have HGood : Hid (∀ W, Below wr.drew.heap.size wr.drew W → Calls Tryz.prog 31 #[.agg #[pk, lk, .slice na needs.length nc], .agg #[.string x.name, .int .i64 x.v.a, .int .i64 x.v.b, .int .i64 x.v.c, .string x.v.p]] W fun e w' => e = .returned (.bool true) ∧ Below W.heap.size W w') := fun W hW => by
        have h5 := below_then HB4.out (below_then HB5.out (((Below.refl wr.heap.size wr).drew).trans (hW.mono (by simp))))
        exact good_as pk lk _ ps lock x W (HX.out.1.below h5 (Nat.le_refl _)) (HX.out.2.1.below h5 (Nat.le_refl _)) HGd.out
      have hd := (Below.refl wr.heap.size wr).drew
      have HD := Lib.hid hd
      obtain ⟨h0, h1, h2, _⟩ := hca
      rcases Nat.eq_zero_or_pos k with hk0 | hk0
      · subst hk0
        simp only [Nat.zero_mul, Nat.add_zero] at e0 e1 e2 e3 e4
        have hst : SdS w.heap.size pk lk (.slice na needs.length nc) bx ox x x.name ox wr.drew wr.drew := ⟨⟨cell_on h0 hd, cell_on h1 hd, cell_on h2 hd⟩, ⟨cell_on e0 hd, cell_on e1 hd, cell_on e2 hd, cell_on e3 hd, cell_on e4 hd⟩, cell_on e0 hd, Below.refl _ _⟩
        clear h0 h1 h2 e0 e1 e2 e3 e4 hd hup hpv hcp hxe hb5
        go_wp2_with fail
        refine wp_region_held_drew (S := (fun W => SdS w.heap.size pk lk (.slice na needs.length nc) bx ox x x.name ox wr.drew W)) (by kernel_rfl) (hst) (fun hHeld => ?_)
        refine wpAnyH_take (i := 0) (v := ?_) rfl (by kernel_rfl) (by kernel_rfl) (by kernel_rfl) (fun _ _ _ h => h) (Or.inl ⟨by kernel_rfl, ?_⟩) hHeld ?_
        rotate_left
        · (rintro W ⟨⟨e0, e1, e2⟩, ⟨e3, e4, e5, e6, e7⟩, e8, _⟩; go_simp; (try with_reducible rfl))
        (try simp only [Act.put, List.getElem_toArray, List.getElem_cons_zero, List.setIfInBounds_toArray, List.set_cons_succ, List.set_cons_zero])
        refine wpAnyH_take (i := 1) (v := ?_) rfl (by kernel_rfl) (by kernel_rfl) (by kernel_rfl) (fun _ _ _ h => h) (Or.inl ⟨by kernel_rfl, ?_⟩) hHeld ?_
        rotate_left
        · (rintro W ⟨⟨e0, e1, e2⟩, ⟨e3, e4, e5, e6, e7⟩, e8, _⟩; go_simp; (try with_reducible rfl))
        (try simp only [Act.put, List.getElem_toArray, List.getElem_cons_succ, List.getElem_cons_zero, List.setIfInBounds_toArray, List.set_cons_succ, List.set_cons_zero])
        refine wpAnyH_take (i := 2) (v := ?_) rfl (by kernel_rfl) (by kernel_rfl) (by kernel_rfl) (fun _ _ _ h => h) (Or.inl ⟨by kernel_rfl, ?_⟩) hHeld ?_
        rotate_left
        · (rintro W ⟨⟨e0, e1, e2⟩, ⟨e3, e4, e5, e6, e7⟩, e8, _⟩; go_simp; (try with_reducible rfl))
        (try simp only [Act.put, List.getElem_toArray, List.getElem_cons_succ, List.getElem_cons_zero, List.setIfInBounds_toArray, List.set_cons_succ, List.set_cons_zero])
        refine wpAnyH_take (i := 3) (v := undef) rfl (by kernel_rfl) (by kernel_rfl) (by kernel_rfl) (fun _ _ _ h => h) (Or.inr ⟨by kernel_rfl, rfl⟩) hHeld ?_
        (try simp only [Act.put, List.getElem_toArray, List.getElem_cons_succ, List.getElem_cons_zero, List.setIfInBounds_toArray, List.set_cons_succ, List.set_cons_zero])
        refine wpAnyH_take (i := 4) (v := undef) rfl (by kernel_rfl) (by kernel_rfl) (by kernel_rfl) (fun _ _ _ h => h) (Or.inr ⟨by kernel_rfl, rfl⟩) hHeld ?_
        (try simp only [Act.put, List.getElem_toArray, List.getElem_cons_succ, List.getElem_cons_zero, List.setIfInBounds_toArray, List.set_cons_succ, List.set_cons_zero])
        refine wpAnyH_take (i := 5) (v := undef) rfl (by kernel_rfl) (by kernel_rfl) (by kernel_rfl) (fun _ _ _ h => h) (Or.inr ⟨by kernel_rfl, rfl⟩) hHeld ?_
        (try simp only [Act.put, List.getElem_toArray, List.getElem_cons_succ, List.getElem_cons_zero, List.setIfInBounds_toArray, List.set_cons_succ, List.set_cons_zero])
        refine wpAnyH_take (i := 6) (v := undef) rfl (by kernel_rfl) (by kernel_rfl) (by kernel_rfl) (fun _ _ _ h => h) (Or.inr ⟨by kernel_rfl, rfl⟩) hHeld ?_
        (try simp only [Act.put, List.getElem_toArray, List.getElem_cons_succ, List.getElem_cons_zero, List.setIfInBounds_toArray, List.set_cons_succ, List.set_cons_zero])
        refine wpAnyH_take (i := 7) (v := undef) rfl (by kernel_rfl) (by kernel_rfl) (by kernel_rfl) (fun _ _ _ h => h) (Or.inr ⟨by kernel_rfl, rfl⟩) hHeld ?_
        (try simp only [Act.put, List.getElem_toArray, List.getElem_cons_succ, List.getElem_cons_zero, List.setIfInBounds_toArray, List.set_cons_succ, List.set_cons_zero])
        refine wpAnyH_take (i := 8) (v := undef) rfl (by kernel_rfl) (by kernel_rfl) (by kernel_rfl) (fun _ _ _ h => h) (Or.inr ⟨by kernel_rfl, rfl⟩) hHeld ?_
        (try simp only [Act.put, List.getElem_toArray, List.getElem_cons_succ, List.getElem_cons_zero, List.setIfInBounds_toArray, List.set_cons_succ, List.set_cons_zero])
        refine wpAnyH_take (i := 9) (v := undef) rfl (by kernel_rfl) (by kernel_rfl) (by kernel_rfl) (fun _ _ _ h => h) (Or.inr ⟨by kernel_rfl, rfl⟩) hHeld ?_
        (try simp only [Act.put, List.getElem_toArray, List.getElem_cons_succ, List.getElem_cons_zero, List.setIfInBounds_toArray, List.set_cons_succ, List.set_cons_zero])
        refine wpAnyH_take (i := 10) (v := undef) rfl (by kernel_rfl) (by kernel_rfl) (by kernel_rfl) (fun _ _ _ h => h) (Or.inr ⟨by kernel_rfl, rfl⟩) hHeld ?_
        (try simp only [Act.put, List.getElem_toArray, List.getElem_cons_succ, List.getElem_cons_zero, List.setIfInBounds_toArray, List.set_cons_succ, List.set_cons_zero])
        refine wpAnyH_take (i := 11) (v := undef) rfl (by kernel_rfl) (by kernel_rfl) (by kernel_rfl) (fun _ _ _ h => h) (Or.inr ⟨by kernel_rfl, rfl⟩) hHeld ?_
        (try simp only [Act.put, List.getElem_toArray, List.getElem_cons_succ, List.getElem_cons_zero, List.setIfInBounds_toArray, List.set_cons_succ, List.set_cons_zero])
        refine wpAnyH_take (i := 12) (v := undef) rfl (by kernel_rfl) (by kernel_rfl) (by kernel_rfl) (fun _ _ _ h => h) (Or.inr ⟨by kernel_rfl, rfl⟩) hHeld ?_
        (try simp only [Act.put, List.getElem_toArray, List.getElem_cons_succ, List.getElem_cons_zero, List.setIfInBounds_toArray, List.set_cons_succ, List.set_cons_zero])
        refine wpAnyH_take (i := 13) (v := undef) rfl (by kernel_rfl) (by kernel_rfl) (by kernel_rfl) (fun _ _ _ h => h) (Or.inr ⟨by kernel_rfl, rfl⟩) hHeld ?_
        (try simp only [Act.put, List.getElem_toArray, List.getElem_cons_succ, List.getElem_cons_zero, List.setIfInBounds_toArray, List.set_cons_succ, List.set_cons_zero])
        refine wpAnyH_take (i := 14) (v := undef) rfl (by kernel_rfl) (by kernel_rfl) (by kernel_rfl) (fun _ _ _ h => h) (Or.inr ⟨by kernel_rfl, rfl⟩) hHeld ?_
        (try simp only [Act.put, List.getElem_toArray, List.getElem_cons_succ, List.getElem_cons_zero, List.setIfInBounds_toArray, List.set_cons_succ, List.set_cons_zero])
        refine wpAnyH_take (i := 15) (v := ?_) rfl (by kernel_rfl) (by kernel_rfl) (by kernel_rfl) (fun _ _ _ h => h) (Or.inl ⟨by kernel_rfl, ?_⟩) hHeld ?_
        rotate_left
        · (rintro W ⟨⟨e0, e1, e2⟩, ⟨e3, e4, e5, e6, e7⟩, e8, _⟩; go_simp; (try with_reducible rfl))
        (try simp only [Act.put, List.getElem_toArray, List.getElem_cons_succ, List.getElem_cons_zero, List.setIfInBounds_toArray, List.set_cons_succ, List.set_cons_zero])
        refine wpAnyH_take (i := 16) (v := ?_) rfl (by kernel_rfl) (by kernel_rfl) (by kernel_rfl) (fun _ _ _ h => h) (Or.inl ⟨by kernel_rfl, ?_⟩) hHeld ?_
        rotate_left
        · (rintro W ⟨⟨e0, e1, e2⟩, ⟨e3, e4, e5, e6, e7⟩, e8, _⟩; go_simp; (try with_reducible rfl))
        (try simp only [Act.put, List.getElem_toArray, List.getElem_cons_succ, List.getElem_cons_zero, List.setIfInBounds_toArray, List.set_cons_succ, List.set_cons_zero])
        refine wpAnyH_take (i := 17) (v := ?_) rfl (by kernel_rfl) (by kernel_rfl) (by kernel_rfl) (fun _ _ _ h => h) (Or.inl ⟨by kernel_rfl, ?_⟩) hHeld ?_
        rotate_left
        · (rintro W ⟨⟨e0, e1, e2⟩, ⟨e3, e4, e5, e6, e7⟩, e8, _⟩; go_simp; (try with_reducible rfl))
        (try simp only [Act.put, List.getElem_toArray, List.getElem_cons_succ, List.getElem_cons_zero, List.setIfInBounds_toArray, List.set_cons_succ, List.set_cons_zero])
        refine wpAnyH_take (i := 18) (v := ?_) rfl (by kernel_rfl) (by kernel_rfl) (by kernel_rfl) (fun _ _ _ h => h) (Or.inl ⟨by kernel_rfl, ?_⟩) hHeld ?_
        rotate_left
        · (rintro W ⟨⟨e0, e1, e2⟩, ⟨e3, e4, e5, e6, e7⟩, e8, _⟩; go_simp; (try with_reducible rfl))
        (try simp only [Act.put, List.getElem_toArray, List.getElem_cons_succ, List.getElem_cons_zero, List.setIfInBounds_toArray, List.set_cons_succ, List.set_cons_zero])
        refine wpAnyH_take (i := 19) (v := ?_) rfl (by kernel_rfl) (by kernel_rfl) (by kernel_rfl) (fun _ _ _ h => h) (Or.inl ⟨by kernel_rfl, ?_⟩) hHeld ?_
        rotate_left
        · (rintro W ⟨⟨e0, e1, e2⟩, ⟨e3, e4, e5, e6, e7⟩, e8, _⟩; go_simp; (try with_reducible rfl))
        (try simp only [Act.put, List.getElem_toArray, List.getElem_cons_succ, List.getElem_cons_zero, List.setIfInBounds_toArray, List.set_cons_succ, List.set_cons_zero])
        refine wpAnyH_take (i := 20) (v := ?_) rfl (by kernel_rfl) (by kernel_rfl) (by kernel_rfl) (fun _ _ _ h => h) (Or.inl ⟨by kernel_rfl, ?_⟩) hHeld ?_
        rotate_left
        · (rintro W ⟨⟨e0, e1, e2⟩, ⟨e3, e4, e5, e6, e7⟩, e8, _⟩; go_simp; (try with_reducible rfl))
        (try simp only [Act.put, List.getElem_toArray, List.getElem_cons_succ, List.getElem_cons_zero, List.setIfInBounds_toArray, List.set_cons_succ, List.set_cons_zero])
        refine wpAnyH_take (i := 21) (v := ?_) rfl (by kernel_rfl) (by kernel_rfl) (by kernel_rfl) (fun _ _ _ h => h) (Or.inl ⟨by kernel_rfl, ?_⟩) hHeld ?_
        rotate_left
        · (rintro W ⟨⟨e0, e1, e2⟩, ⟨e3, e4, e5, e6, e7⟩, e8, _⟩; go_simp; (try with_reducible rfl))
        (try simp only [Act.put, List.getElem_toArray, List.getElem_cons_succ, List.getElem_cons_zero, List.setIfInBounds_toArray, List.set_cons_succ, List.set_cons_zero])
        refine wpAnyH_ready (rs := [22]) (by kernel_rfl) (by simp) ?_
        refine AllReadyH.cons rfl (fun K hK => ?_) AllReadyH.nil
        go_simp
        refine (HGood.out _ hHeld.2.2.2).mono ?_
        rintro e wu ⟨rfl, hk22⟩
        refine hK.out _ _ (hHeld.on hk22) (fun hHeld => ?_)
        clear hK K
        (try simp only [Act.put, List.getElem_toArray, List.getElem_cons_succ, List.getElem_cons_zero, List.setIfInBounds_toArray, List.set_cons_succ, List.set_cons_zero])
        refine wpAnyH_take (i := 23) (v := ?_) rfl (by kernel_rfl) (by kernel_rfl) (by kernel_rfl) (fun _ _ _ h => h) (Or.inl ⟨by kernel_rfl, ?_⟩) hHeld ?_
        rotate_left
        · (rintro W ⟨⟨e0, e1, e2⟩, ⟨e3, e4, e5, e6, e7⟩, e8, _⟩; go_simp; (try with_reducible rfl))
        (try simp only [Act.put, List.getElem_toArray, List.getElem_cons_succ, List.getElem_cons_zero, List.setIfInBounds_toArray, List.set_cons_succ, List.set_cons_zero])
        refine wpAnyH_take (i := 24) (v := ?_) rfl (by kernel_rfl) (by kernel_rfl) (by kernel_rfl) (fun _ _ _ h => h) (Or.inl ⟨by kernel_rfl, ?_⟩) hHeld ?_
        rotate_left
        · (rintro W ⟨⟨e0, e1, e2⟩, ⟨e3, e4, e5, e6, e7⟩, e8, _⟩; go_simp; (try with_reducible rfl))
        (try simp only [Act.put, List.getElem_toArray, List.getElem_cons_succ, List.getElem_cons_zero, List.setIfInBounds_toArray, List.set_cons_succ, List.set_cons_zero])
        refine wpAnyH_done (by kernel_rfl) ?_ _
        have hbE := HD.out.trans (hHeld.2.2.2.mono HD.out.size)
        have HR : Hid (SiRel r1.length w.heap.size pk lk (.slice na needs.length nc) w w4 (.int .i64 ((0 + 1 : Nat) : Int)) wu) := ⟨0 + 1, hlt, rfl, HCr.out.on hbE, below_then HB5.out hbE⟩
        clear hst hHeld hbE
        go_wp2_with fail
        go_roundw
        case rel => exact HR.out
        case measure => simp [intOf]; omega
      · have hup2 := hup hk0
        have hpv2 := hpv hk0
        generalize (r1[k - 1]'(by omega)).name = u at hup2 hpv2
        have hkz : IntKind.i64.wrap ((k : Int) - 1) = ((k - 1 : Nat) : Int) := by rw [IntKind.wrap_i64]; omega
        have hkz0 : (0 : Int) ≤ ((k - 1 : Nat) : Int) := by omega
        have hkz1 : ((k - 1 : Nat) : Int) < (r1.length : Int) := by omega
        have q6 : decide ((0 : Int) < (k : Int)) = true := decide_eq_true (by omega)
        have q7 : decide (0 < k) = true := decide_eq_true (by omega)
        have hst : SdS w.heap.size pk lk (.slice na needs.length nc) bx (ox + k * 5) x u (ox + (k - 1) * 5) wr.drew wr.drew := ⟨⟨cell_on h0 hd, cell_on h1 hd, cell_on h2 hd⟩, ⟨cell_on e0 hd, cell_on e1 hd, cell_on e2 hd, cell_on e3 hd, cell_on e4 hd⟩, cell_on hpv2 hd, Below.refl _ _⟩
        have HLt := Lib.hid (⟨hlt, hk0⟩ : _ ∧ _)
        clear h0 h1 h2 e0 e1 e2 e3 e4 hd hup hpv hpv2 hcp hxe hb5 hk0
        go_wp2_with fail
        refine wp_region_held_drew (S := (fun W => SdS w.heap.size pk lk (.slice na needs.length nc) bx (ox + k * 5) x u (ox + (k - 1) * 5) wr.drew W)) (by kernel_rfl) (hst) (fun hHeld => ?_)
        refine wpAnyH_take (i := 0) (v := ?_) rfl (by kernel_rfl) (by kernel_rfl) (by kernel_rfl) (fun _ _ _ h => h) (Or.inl ⟨by kernel_rfl, ?_⟩) hHeld ?_
        rotate_left
        · (rintro W ⟨⟨e0, e1, e2⟩, ⟨e3, e4, e5, e6, e7⟩, e8, _⟩; go_simp; (try with_reducible rfl))
        (try simp only [Act.put, List.getElem_toArray, List.getElem_cons_zero, List.setIfInBounds_toArray, List.set_cons_succ, List.set_cons_zero])
        refine wpAnyH_take (i := 1) (v := ?_) rfl (by kernel_rfl) (by kernel_rfl) (by kernel_rfl) (fun _ _ _ h => h) (Or.inl ⟨by kernel_rfl, ?_⟩) hHeld ?_
        rotate_left
        · (rintro W ⟨⟨e0, e1, e2⟩, ⟨e3, e4, e5, e6, e7⟩, e8, _⟩; go_simp; (try with_reducible rfl))
        (try simp only [Act.put, List.getElem_toArray, List.getElem_cons_succ, List.getElem_cons_zero, List.setIfInBounds_toArray, List.set_cons_succ, List.set_cons_zero])
        refine wpAnyH_take (i := 2) (v := ?_) rfl (by kernel_rfl) (by kernel_rfl) (by kernel_rfl) (fun _ _ _ h => h) (Or.inl ⟨by kernel_rfl, ?_⟩) hHeld ?_
        rotate_left
        · (rintro W ⟨⟨e0, e1, e2⟩, ⟨e3, e4, e5, e6, e7⟩, e8, _⟩; go_simp; (try with_reducible rfl))
        (try simp only [Act.put, List.getElem_toArray, List.getElem_cons_succ, List.getElem_cons_zero, List.setIfInBounds_toArray, List.set_cons_succ, List.set_cons_zero])
        refine wpAnyH_take (i := 3) (v := ?_) rfl (by kernel_rfl) (by kernel_rfl) (by kernel_rfl) (fun _ _ _ h => h) (Or.inl ⟨by kernel_rfl, ?_⟩) hHeld ?_
        rotate_left
        · (rintro W ⟨⟨e0, e1, e2⟩, ⟨e3, e4, e5, e6, e7⟩, e8, _⟩; go_simp; (try with_reducible rfl))
        (try simp only [Act.put, List.getElem_toArray, List.getElem_cons_succ, List.getElem_cons_zero, List.setIfInBounds_toArray, List.set_cons_succ, List.set_cons_zero])
        refine wpAnyH_take (i := 4) (v := ?_) rfl (by kernel_rfl) (by kernel_rfl) (by kernel_rfl) (fun _ _ _ h => h) (Or.inl ⟨by kernel_rfl, ?_⟩) hHeld ?_
        rotate_left
        · (rintro W ⟨⟨e0, e1, e2⟩, ⟨e3, e4, e5, e6, e7⟩, e8, _⟩; go_simp; (try with_reducible rfl))
        (try simp only [Act.put, List.getElem_toArray, List.getElem_cons_succ, List.getElem_cons_zero, List.setIfInBounds_toArray, List.set_cons_succ, List.set_cons_zero])
        refine wpAnyH_take (i := 5) (v := ?_) rfl (by kernel_rfl) (by kernel_rfl) (by kernel_rfl) (fun _ _ _ h => h) (Or.inl ⟨by kernel_rfl, ?_⟩) hHeld ?_
        rotate_left
        · (rintro W ⟨⟨e0, e1, e2⟩, ⟨e3, e4, e5, e6, e7⟩, e8, _⟩; go_simp; (try with_reducible rfl))
        (try simp only [Act.put, List.getElem_toArray, List.getElem_cons_succ, List.getElem_cons_zero, List.setIfInBounds_toArray, List.set_cons_succ, List.set_cons_zero])
        refine wpAnyH_take (i := 6) (v := ?_) rfl (by kernel_rfl) (by kernel_rfl) (by kernel_rfl) (fun _ _ _ h => h) (Or.inl ⟨by kernel_rfl, ?_⟩) hHeld ?_
        rotate_left
        · (rintro W ⟨⟨e0, e1, e2⟩, ⟨e3, e4, e5, e6, e7⟩, e8, _⟩; go_simp; (try with_reducible rfl))
        (try simp only [Act.put, List.getElem_toArray, List.getElem_cons_succ, List.getElem_cons_zero, List.setIfInBounds_toArray, List.set_cons_succ, List.set_cons_zero])
        refine wpAnyH_take (i := 7) (v := ?_) rfl (by kernel_rfl) (by kernel_rfl) (by kernel_rfl) (fun _ _ _ h => h) (Or.inl ⟨by kernel_rfl, ?_⟩) hHeld ?_
        rotate_left
        · (rintro W ⟨⟨e0, e1, e2⟩, ⟨e3, e4, e5, e6, e7⟩, e8, _⟩; go_simp; (try with_reducible rfl))
        (try simp only [Act.put, List.getElem_toArray, List.getElem_cons_succ, List.getElem_cons_zero, List.setIfInBounds_toArray, List.set_cons_succ, List.set_cons_zero])
        refine wpAnyH_take (i := 8) (v := ?_) rfl (by kernel_rfl) (by kernel_rfl) (by kernel_rfl) (fun _ _ _ h => h) (Or.inl ⟨by kernel_rfl, ?_⟩) hHeld ?_
        rotate_left
        · (rintro W ⟨⟨e0, e1, e2⟩, ⟨e3, e4, e5, e6, e7⟩, e8, _⟩; go_simp; (try with_reducible rfl))
        (try simp only [Act.put, List.getElem_toArray, List.getElem_cons_succ, List.getElem_cons_zero, List.setIfInBounds_toArray, List.set_cons_succ, List.set_cons_zero])
        refine wpAnyH_take (i := 9) (v := ?_) rfl (by kernel_rfl) (by kernel_rfl) (by kernel_rfl) (fun _ _ _ h => h) (Or.inl ⟨by kernel_rfl, ?_⟩) hHeld ?_
        rotate_left
        · (rintro W ⟨⟨e0, e1, e2⟩, ⟨e3, e4, e5, e6, e7⟩, e8, _⟩; go_simp; (try with_reducible rfl))
        (try simp only [Act.put, List.getElem_toArray, List.getElem_cons_succ, List.getElem_cons_zero, List.setIfInBounds_toArray, List.set_cons_succ, List.set_cons_zero])
        refine wpAnyH_take (i := 10) (v := ?_) rfl (by kernel_rfl) (by kernel_rfl) (by kernel_rfl) (fun _ _ _ h => h) (Or.inl ⟨by kernel_rfl, ?_⟩) hHeld ?_
        rotate_left
        · (rintro W ⟨⟨e0, e1, e2⟩, ⟨e3, e4, e5, e6, e7⟩, e8, _⟩; go_simp; (try with_reducible rfl))
        (try simp only [Act.put, List.getElem_toArray, List.getElem_cons_succ, List.getElem_cons_zero, List.setIfInBounds_toArray, List.set_cons_succ, List.set_cons_zero])
        refine wpAnyH_take (i := 11) (v := ?_) rfl (by kernel_rfl) (by kernel_rfl) (by kernel_rfl) (fun _ _ _ h => h) (Or.inl ⟨by kernel_rfl, ?_⟩) hHeld ?_
        rotate_left
        · (rintro W ⟨⟨e0, e1, e2⟩, ⟨e3, e4, e5, e6, e7⟩, e8, _⟩; go_simp; (try with_reducible rfl))
        (try simp only [Act.put, List.getElem_toArray, List.getElem_cons_succ, List.getElem_cons_zero, List.setIfInBounds_toArray, List.set_cons_succ, List.set_cons_zero])
        refine wpAnyH_take (i := 12) (v := ?_) rfl (by kernel_rfl) (by kernel_rfl) (by kernel_rfl) (fun _ _ _ h => h) (Or.inl ⟨by kernel_rfl, ?_⟩) hHeld ?_
        rotate_left
        · (rintro W ⟨⟨e0, e1, e2⟩, ⟨e3, e4, e5, e6, e7⟩, e8, _⟩; go_simp; (try with_reducible rfl))
        (try simp only [Act.put, List.getElem_toArray, List.getElem_cons_succ, List.getElem_cons_zero, List.setIfInBounds_toArray, List.set_cons_succ, List.set_cons_zero])
        refine wpAnyH_take (i := 13) (v := ?_) rfl (by kernel_rfl) (by kernel_rfl) (by kernel_rfl) (fun _ _ _ h => h) (Or.inl ⟨by kernel_rfl, ?_⟩) hHeld ?_
        rotate_left
        · (rintro W ⟨⟨e0, e1, e2⟩, ⟨e3, e4, e5, e6, e7⟩, e8, _⟩; go_simp; (try with_reducible rfl))
        (try simp only [Act.put, List.getElem_toArray, List.getElem_cons_succ, List.getElem_cons_zero, List.setIfInBounds_toArray, List.set_cons_succ, List.set_cons_zero])
        refine wpAnyH_take (i := 14) (v := ?_) rfl (by kernel_rfl) (by kernel_rfl) (by kernel_rfl) (fun _ _ _ h => h) (Or.inl ⟨by kernel_rfl, ?_⟩) hHeld ?_
        rotate_left
        · (rintro W ⟨⟨e0, e1, e2⟩, ⟨e3, e4, e5, e6, e7⟩, e8, _⟩; go_simp; (try with_reducible rfl))
        (try simp only [Act.put, List.getElem_toArray, List.getElem_cons_succ, List.getElem_cons_zero, List.setIfInBounds_toArray, List.set_cons_succ, List.set_cons_zero])
        refine wpAnyH_take (i := 15) (v := ?_) rfl (by kernel_rfl) (by kernel_rfl) (by kernel_rfl) (fun _ _ _ h => h) (Or.inl ⟨by kernel_rfl, ?_⟩) hHeld ?_
        rotate_left
        · (rintro W ⟨⟨e0, e1, e2⟩, ⟨e3, e4, e5, e6, e7⟩, e8, _⟩; go_simp; (try with_reducible rfl))
        (try simp only [Act.put, List.getElem_toArray, List.getElem_cons_succ, List.getElem_cons_zero, List.setIfInBounds_toArray, List.set_cons_succ, List.set_cons_zero])
        refine wpAnyH_take (i := 16) (v := ?_) rfl (by kernel_rfl) (by kernel_rfl) (by kernel_rfl) (fun _ _ _ h => h) (Or.inl ⟨by kernel_rfl, ?_⟩) hHeld ?_
        rotate_left
        · (rintro W ⟨⟨e0, e1, e2⟩, ⟨e3, e4, e5, e6, e7⟩, e8, _⟩; go_simp; (try with_reducible rfl))
        (try simp only [Act.put, List.getElem_toArray, List.getElem_cons_succ, List.getElem_cons_zero, List.setIfInBounds_toArray, List.set_cons_succ, List.set_cons_zero])
        refine wpAnyH_take (i := 17) (v := ?_) rfl (by kernel_rfl) (by kernel_rfl) (by kernel_rfl) (fun _ _ _ h => h) (Or.inl ⟨by kernel_rfl, ?_⟩) hHeld ?_
        rotate_left
        · (rintro W ⟨⟨e0, e1, e2⟩, ⟨e3, e4, e5, e6, e7⟩, e8, _⟩; go_simp; (try with_reducible rfl))
        (try simp only [Act.put, List.getElem_toArray, List.getElem_cons_succ, List.getElem_cons_zero, List.setIfInBounds_toArray, List.set_cons_succ, List.set_cons_zero])
        refine wpAnyH_take (i := 18) (v := ?_) rfl (by kernel_rfl) (by kernel_rfl) (by kernel_rfl) (fun _ _ _ h => h) (Or.inl ⟨by kernel_rfl, ?_⟩) hHeld ?_
        rotate_left
        · (rintro W ⟨⟨e0, e1, e2⟩, ⟨e3, e4, e5, e6, e7⟩, e8, _⟩; go_simp; (try with_reducible rfl))
        (try simp only [Act.put, List.getElem_toArray, List.getElem_cons_succ, List.getElem_cons_zero, List.setIfInBounds_toArray, List.set_cons_succ, List.set_cons_zero])
        refine wpAnyH_take (i := 19) (v := ?_) rfl (by kernel_rfl) (by kernel_rfl) (by kernel_rfl) (fun _ _ _ h => h) (Or.inl ⟨by kernel_rfl, ?_⟩) hHeld ?_
        rotate_left
        · (rintro W ⟨⟨e0, e1, e2⟩, ⟨e3, e4, e5, e6, e7⟩, e8, _⟩; go_simp; (try with_reducible rfl))
        (try simp only [Act.put, List.getElem_toArray, List.getElem_cons_succ, List.getElem_cons_zero, List.setIfInBounds_toArray, List.set_cons_succ, List.set_cons_zero])
        refine wpAnyH_take (i := 20) (v := ?_) rfl (by kernel_rfl) (by kernel_rfl) (by kernel_rfl) (fun _ _ _ h => h) (Or.inl ⟨by kernel_rfl, ?_⟩) hHeld ?_
        rotate_left
        · (rintro W ⟨⟨e0, e1, e2⟩, ⟨e3, e4, e5, e6, e7⟩, e8, _⟩; go_simp; (try with_reducible rfl))
        (try simp only [Act.put, List.getElem_toArray, List.getElem_cons_succ, List.getElem_cons_zero, List.setIfInBounds_toArray, List.set_cons_succ, List.set_cons_zero])
        refine wpAnyH_take (i := 21) (v := ?_) rfl (by kernel_rfl) (by kernel_rfl) (by kernel_rfl) (fun _ _ _ h => h) (Or.inl ⟨by kernel_rfl, ?_⟩) hHeld ?_
        rotate_left
        · (rintro W ⟨⟨e0, e1, e2⟩, ⟨e3, e4, e5, e6, e7⟩, e8, _⟩; go_simp; (try with_reducible rfl))
        (try simp only [Act.put, List.getElem_toArray, List.getElem_cons_succ, List.getElem_cons_zero, List.setIfInBounds_toArray, List.set_cons_succ, List.set_cons_zero])
        refine wpAnyH_ready (rs := [22]) (by kernel_rfl) (by simp) ?_
        refine AllReadyH.cons rfl (fun K hK => ?_) AllReadyH.nil
        go_simp
        refine (HGood.out _ hHeld.2.2.2).mono ?_
        rintro e wu ⟨rfl, hk22⟩
        refine hK.out _ _ (hHeld.on hk22) (fun hHeld => ?_)
        clear hK K
        (try simp only [Act.put, List.getElem_toArray, List.getElem_cons_succ, List.getElem_cons_zero, List.setIfInBounds_toArray, List.set_cons_succ, List.set_cons_zero])
        refine wpAnyH_take (i := 23) (v := ?_) rfl (by kernel_rfl) (by kernel_rfl) (by kernel_rfl) (fun _ _ _ h => h) (Or.inl ⟨by kernel_rfl, ?_⟩) hHeld ?_
        rotate_left
        · (rintro W ⟨⟨e0, e1, e2⟩, ⟨e3, e4, e5, e6, e7⟩, e8, _⟩; go_simp; (try with_reducible rfl))
        (try simp only [Act.put, List.getElem_toArray, List.getElem_cons_succ, List.getElem_cons_zero, List.setIfInBounds_toArray, List.set_cons_succ, List.set_cons_zero])
        refine wpAnyH_take (i := 24) (v := ?_) rfl (by kernel_rfl) (by kernel_rfl) (by kernel_rfl) (fun _ _ _ h => h) (Or.inl ⟨by kernel_rfl, ?_⟩) hHeld ?_
        rotate_left
        · (rintro W ⟨⟨e0, e1, e2⟩, ⟨e3, e4, e5, e6, e7⟩, e8, _⟩; go_simp; (try with_reducible rfl))
        (try simp only [Act.put, List.getElem_toArray, List.getElem_cons_succ, List.getElem_cons_zero, List.setIfInBounds_toArray, List.set_cons_succ, List.set_cons_zero])
        refine wpAnyH_done (by kernel_rfl) ?_ _
        have hbE := HD.out.trans (hHeld.2.2.2.mono HD.out.size)
        have HR : Hid (SiRel r1.length w.heap.size pk lk (.slice na needs.length nc) w w4 (.int .i64 ((k + 1 : Nat) : Int)) wu) := ⟨k + 1, hlt, rfl, HCr.out.on hbE, below_then HB5.out hbE⟩
        clear hst hHeld hbE
        go_wp2_with fail
        go_roundw
        case rel => exact HR.out
        case measure => simp [intOf]; omega
    · have q5 : decide (k < r1.length) = false := decide_eq_false hlt
      clear hlt hb5 hca
      go_wp2_with fail
      obtain ⟨w5, rfl⟩ : ∃ W, W = wr := ⟨_, rfl⟩
      go_loopw [9] (fun i wy => SiRel needs.length w.heap.size pk lk (.slice na needs.length nc) w w4 i wy) (fun i _ => needs.length - (intOf i).toNat)
      case atStart => exact ⟨0, Nat.zero_le _, rfl, HCr.out, HB5.out⟩
      case round =>
        obtain ⟨j, hj, rfl, hca, hb6⟩ := hrel
        have HCj := Lib.hid hca
        have HBj := Lib.hid hb6
        obtain ⟨h0, h1, h2, hbw⟩ := hca
        have hz0 := cell_lt h2
        by_cases hlt : j < needs.length
        · have i0 : (0 : Int) ≤ (j : Int) := by omega
          have i1 : (j : Int) < (needs.length : Int) := by omega
          obtain ⟨bn, qn, rfl, hbn, g0, g1⟩ := HX.out.2.2.at' hbw hlt
          have hrv := HX.out.2.2.2 _ (List.getElem_mem hlt)
          have hbd := HC4.out.nds _ (List.getElem_mem hlt)
          have hhit := HS1.out.hit (List.getElem_mem hlt)
          generalize needs[j]'hlt = d at g0 g1 hrv hbd hhit
          obtain ⟨xn, xv⟩ := d
          obtain ⟨hbnd, ra, rcap, hrv⟩ := hrv
          simp only at hbnd hrv g0 g1 hbd
          subst hrv
          have HHit := Lib.hid hhit
          have HBd := Lib.hid (⟨hbnd, hbd⟩ : _ ∧ _)
          have HG := Lib.hid (⟨g0, g1⟩ : _ ∧ _)
          have HJ := Lib.hid hlt
          clear h0 h1 hbd hbnd hhit g0 g1 hb6 hbw
          go_wp2_with fail
          obtain ⟨w6, rfl⟩ : ∃ W, W = wr := ⟨_, rfl⟩
          go_loopw [10, 11] (fun u i wy => SjRel r1 (xn, .slice ra xn.bs.length rcap) w.heap.size pk lk (.slice (some ⟨bn, qn, none⟩) needs.length nc) w w4 w6 u i wy) (fun _ i _ => r1.length - (intOf i).toNat)
          case atStart => exact ⟨0, false, Nat.zero_le _, rfl, rfl, rfl, HCj.out, HBj.out, Below.refl _ _⟩
          case round =>
            obtain ⟨m, b, hm, rfl, rfl, hany, hca, hb7, hb8⟩ := hrel
            have HAn := Lib.hid hany
            have HCm := Lib.hid hca
            have HBm := Lib.hid hb7
            have HBn := Lib.hid hb8
            clear hany
            by_cases hlm : m < r1.length
            · have j0 : (0 : Int) ≤ (m : Int) := by omega
              have j1 : (m : Int) < (r1.length : Int) := by omega
              have HT := Lib.hid (List.take_succ_eq_append_getElem hlm)
              cases b
              case true =>
                clear hca hb7 hb8
                go_wp2_with fail
                go_quiet (fail)
                go_wp2_with fail
                go_roundw
                case rel => exact ⟨m + 1, true, hlm, by go_num, rfl, by rw [HT.out, List.any_append, HAn.out]; rfl, HCm.out.on (below_drewN (Below.refl _ _) _), below_drewN HBm.out _, below_drewN HBn.out _⟩
                case measure => simp [intOf]; omega
              obtain ⟨bx, ox, rfl, hbx, hcp⟩ := HP4.out.row hb7 hlm
              obtain ⟨e0, e1, e2, e3, e4⟩ := hcp m hlm
              have hpre := HS1.out.pre HSp.out r1[m] (List.getElem_mem hlm)
              generalize hxe : r1[m]'hlm = x at e0 e1 e2 e3 e4 hpre HT
              obtain ⟨h0, h1, h2, hbw⟩ := hca
              have g0 := cell_on HG.out.1 hb8
              have g1 := cell_on HG.out.2 hb8
              have hz2 := cell_lt g0
              have i0 : (0 : Int) ≤ (j : Int) := by omega
              have i1 : (j : Int) < (needs.length : Int) := by have := HJ.out; omega
              clear hcp hxe h0 h1 hb7 hb8
              by_cases hnm : x.name = S xn.name
              case neg =>
                have e9 : (x.name.toList == (S xn.name).toList) = false := beq_eq_false_iff_ne.2 fun h => hnm (bytes_injP h)
                have hp : ¬ x.name.toList = (S xn.name).toList := fun h => hnm (bytes_injP h)
                have HHf : Hid (hitP (xn, .slice ra xn.bs.length rcap) x = false) := by show _ = _; unfold hitP; simp only; rw [decide_eq_false hnm]; rfl
                clear hnm hbw
                go_wp2_with fail
                go_quiet (fail)
                go_wp2_with fail
                go_roundw
                case rel => exact ⟨m + 1, false, hlm, by go_num, rfl, by rw [HT.out, List.any_append, HAn.out]; simp [HHf.out], HCm.out.on (below_drewN (Below.refl _ _) _), below_drewN HBm.out _, below_drewN HBn.out _⟩
                case measure => simp [intOf]; omega
              have e9 : (x.name.toList == (S xn.name).toList) = true := by rw [hnm]; exact beq_self_eq_true _
              have hp : x.name.toList = (S xn.name).toList := by rw [hnm]
              obtain ⟨r, hr⟩ : ∃ r, meetsR x.v xn.bs = r := ⟨_, rfl⟩
              have HHf : Hid (hitP (xn, .slice ra xn.bs.length rcap) x = r) := by show _ = _; unfold hitP; simp only; rw [decide_eq_true hnm, hr]; rfl
              have hd := (Below.refl wr.heap.size wr).drew
              have HMt : Hid (∀ W, Below wr.drew.heap.size wr.drew W → Calls Tryz.prog 23 #[.agg #[.int .i64 x.v.a, .int .i64 x.v.b, .int .i64 x.v.c, .string x.v.p], .slice ra xn.bs.length rcap] W fun e w' => e = .returned (.bool r) ∧ Below W.heap.size W w') := fun W hW => by
                have hW2 := hbw.trans ((hd.trans (hW.mono hd.size)).mono hbw.size)
                exact meetsO_as x.v _ xn.bs r hr W (HBd.out.1.below hW2 (Nat.le_refl _)) ⟨_, _, rfl⟩ (HE.out.below hW2) hpre HBd.out.2.2 HBd.out.2.1
              have hst : SmS w.heap.size (.slice (some ⟨bn, qn, none⟩) needs.length nc) bx (ox + m * 5) x bn (qn + j * 2) (S xn.name) (.slice ra xn.bs.length rcap) wr.drew wr.drew := ⟨cell_on h2 hd, ⟨cell_on e0 hd, cell_on e1 hd, cell_on e2 hd, cell_on e3 hd, cell_on e4 hd⟩, ⟨cell_on g0 hd, cell_on g1 hd⟩, Below.refl _ _⟩
              have HD := Lib.hid hd
              have HLm := Lib.hid hlm
              clear hnm hbw hr hpre h2 e0 e1 e2 e3 e4 g0 g1 hd hlm
              go_wp2_with fail
              refine wp_region_held_drew (S := (fun W => SmS w.heap.size (.slice (some ⟨bn, qn, none⟩) needs.length nc) bx (ox + m * 5) x bn (qn + j * 2) (S xn.name) (.slice ra xn.bs.length rcap) wr.drew W)) (by kernel_rfl) (hst) (fun hHeld => ?_)
              refine wpAnyH_take (i := 0) (v := ?_) rfl (by kernel_rfl) (by kernel_rfl) (by kernel_rfl) (fun _ _ _ h => h) (Or.inl ⟨by kernel_rfl, ?_⟩) hHeld ?_
              rotate_left
              · (rintro W ⟨e0, ⟨e1, e2, e3, e4, e5⟩, ⟨e6, e7⟩, _⟩; go_simp; (try with_reducible rfl))
              (try simp only [Act.put, List.getElem_toArray, List.getElem_cons_zero, List.setIfInBounds_toArray, List.set_cons_succ, List.set_cons_zero])
              refine wpAnyH_take (i := 1) (v := ?_) rfl (by kernel_rfl) (by kernel_rfl) (by kernel_rfl) (fun _ _ _ h => h) (Or.inl ⟨by kernel_rfl, ?_⟩) hHeld ?_
              rotate_left
              · (rintro W ⟨e0, ⟨e1, e2, e3, e4, e5⟩, ⟨e6, e7⟩, _⟩; go_simp; (try with_reducible rfl))
              (try simp only [Act.put, List.getElem_toArray, List.getElem_cons_succ, List.getElem_cons_zero, List.setIfInBounds_toArray, List.set_cons_succ, List.set_cons_zero])
              refine wpAnyH_take (i := 2) (v := ?_) rfl (by kernel_rfl) (by kernel_rfl) (by kernel_rfl) (fun _ _ _ h => h) (Or.inl ⟨by kernel_rfl, ?_⟩) hHeld ?_
              rotate_left
              · (rintro W ⟨e0, ⟨e1, e2, e3, e4, e5⟩, ⟨e6, e7⟩, _⟩; go_simp; (try with_reducible rfl))
              (try simp only [Act.put, List.getElem_toArray, List.getElem_cons_succ, List.getElem_cons_zero, List.setIfInBounds_toArray, List.set_cons_succ, List.set_cons_zero])
              refine wpAnyH_take (i := 3) (v := ?_) rfl (by kernel_rfl) (by kernel_rfl) (by kernel_rfl) (fun _ _ _ h => h) (Or.inl ⟨by kernel_rfl, ?_⟩) hHeld ?_
              rotate_left
              · (rintro W ⟨e0, ⟨e1, e2, e3, e4, e5⟩, ⟨e6, e7⟩, _⟩; go_simp; (try with_reducible rfl))
              (try simp only [Act.put, List.getElem_toArray, List.getElem_cons_succ, List.getElem_cons_zero, List.setIfInBounds_toArray, List.set_cons_succ, List.set_cons_zero])
              refine wpAnyH_take (i := 4) (v := ?_) rfl (by kernel_rfl) (by kernel_rfl) (by kernel_rfl) (fun _ _ _ h => h) (Or.inl ⟨by kernel_rfl, ?_⟩) hHeld ?_
              rotate_left
              · (rintro W ⟨e0, ⟨e1, e2, e3, e4, e5⟩, ⟨e6, e7⟩, _⟩; go_simp; (try with_reducible rfl))
              (try simp only [Act.put, List.getElem_toArray, List.getElem_cons_succ, List.getElem_cons_zero, List.setIfInBounds_toArray, List.set_cons_succ, List.set_cons_zero])
              refine wpAnyH_take (i := 5) (v := ?_) rfl (by kernel_rfl) (by kernel_rfl) (by kernel_rfl) (fun _ _ _ h => h) (Or.inl ⟨by kernel_rfl, ?_⟩) hHeld ?_
              rotate_left
              · (rintro W ⟨e0, ⟨e1, e2, e3, e4, e5⟩, ⟨e6, e7⟩, _⟩; go_simp; (try with_reducible rfl))
              (try simp only [Act.put, List.getElem_toArray, List.getElem_cons_succ, List.getElem_cons_zero, List.setIfInBounds_toArray, List.set_cons_succ, List.set_cons_zero])
              refine wpAnyH_take (i := 6) (v := ?_) rfl (by kernel_rfl) (by kernel_rfl) (by kernel_rfl) (fun _ _ _ h => h) (Or.inl ⟨by kernel_rfl, ?_⟩) hHeld ?_
              rotate_left
              · (rintro W ⟨e0, ⟨e1, e2, e3, e4, e5⟩, ⟨e6, e7⟩, _⟩; go_simp; (try with_reducible rfl))
              (try simp only [Act.put, List.getElem_toArray, List.getElem_cons_succ, List.getElem_cons_zero, List.setIfInBounds_toArray, List.set_cons_succ, List.set_cons_zero])
              refine wpAnyH_take (i := 7) (v := ?_) rfl (by kernel_rfl) (by kernel_rfl) (by kernel_rfl) (fun _ _ _ h => h) (Or.inl ⟨by kernel_rfl, ?_⟩) hHeld ?_
              rotate_left
              · (rintro W ⟨e0, ⟨e1, e2, e3, e4, e5⟩, ⟨e6, e7⟩, _⟩; go_simp; (try with_reducible rfl))
              (try simp only [Act.put, List.getElem_toArray, List.getElem_cons_succ, List.getElem_cons_zero, List.setIfInBounds_toArray, List.set_cons_succ, List.set_cons_zero])
              refine wpAnyH_take (i := 8) (v := ?_) rfl (by kernel_rfl) (by kernel_rfl) (by kernel_rfl) (fun _ _ _ h => h) (Or.inl ⟨by kernel_rfl, ?_⟩) hHeld ?_
              rotate_left
              · (rintro W ⟨e0, ⟨e1, e2, e3, e4, e5⟩, ⟨e6, e7⟩, _⟩; go_simp; (try with_reducible rfl))
              (try simp only [Act.put, List.getElem_toArray, List.getElem_cons_succ, List.getElem_cons_zero, List.setIfInBounds_toArray, List.set_cons_succ, List.set_cons_zero])
              refine wpAnyH_take (i := 9) (v := ?_) rfl (by kernel_rfl) (by kernel_rfl) (by kernel_rfl) (fun _ _ _ h => h) (Or.inl ⟨by kernel_rfl, ?_⟩) hHeld ?_
              rotate_left
              · (rintro W ⟨e0, ⟨e1, e2, e3, e4, e5⟩, ⟨e6, e7⟩, _⟩; go_simp; (try with_reducible rfl))
              (try simp only [Act.put, List.getElem_toArray, List.getElem_cons_succ, List.getElem_cons_zero, List.setIfInBounds_toArray, List.set_cons_succ, List.set_cons_zero])
              refine wpAnyH_take (i := 10) (v := ?_) rfl (by kernel_rfl) (by kernel_rfl) (by kernel_rfl) (fun _ _ _ h => h) (Or.inl ⟨by kernel_rfl, ?_⟩) hHeld ?_
              rotate_left
              · (rintro W ⟨e0, ⟨e1, e2, e3, e4, e5⟩, ⟨e6, e7⟩, _⟩; go_simp; (try with_reducible rfl))
              (try simp only [Act.put, List.getElem_toArray, List.getElem_cons_succ, List.getElem_cons_zero, List.setIfInBounds_toArray, List.set_cons_succ, List.set_cons_zero])
              refine wpAnyH_take (i := 11) (v := ?_) rfl (by kernel_rfl) (by kernel_rfl) (by kernel_rfl) (fun _ _ _ h => h) (Or.inl ⟨by kernel_rfl, ?_⟩) hHeld ?_
              rotate_left
              · (rintro W ⟨e0, ⟨e1, e2, e3, e4, e5⟩, ⟨e6, e7⟩, _⟩; go_simp; (try with_reducible rfl))
              (try simp only [Act.put, List.getElem_toArray, List.getElem_cons_succ, List.getElem_cons_zero, List.setIfInBounds_toArray, List.set_cons_succ, List.set_cons_zero])
              refine wpAnyH_take (i := 12) (v := ?_) rfl (by kernel_rfl) (by kernel_rfl) (by kernel_rfl) (fun _ _ _ h => h) (Or.inl ⟨by kernel_rfl, ?_⟩) hHeld ?_
              rotate_left
              · (rintro W ⟨e0, ⟨e1, e2, e3, e4, e5⟩, ⟨e6, e7⟩, _⟩; go_simp; (try with_reducible rfl))
              (try simp only [Act.put, List.getElem_toArray, List.getElem_cons_succ, List.getElem_cons_zero, List.setIfInBounds_toArray, List.set_cons_succ, List.set_cons_zero])
              refine wpAnyH_take (i := 13) (v := ?_) rfl (by kernel_rfl) (by kernel_rfl) (by kernel_rfl) (fun _ _ _ h => h) (Or.inl ⟨by kernel_rfl, ?_⟩) hHeld ?_
              rotate_left
              · (rintro W ⟨e0, ⟨e1, e2, e3, e4, e5⟩, ⟨e6, e7⟩, _⟩; go_simp; (try with_reducible rfl))
              (try simp only [Act.put, List.getElem_toArray, List.getElem_cons_succ, List.getElem_cons_zero, List.setIfInBounds_toArray, List.set_cons_succ, List.set_cons_zero])
              refine wpAnyH_take (i := 14) (v := ?_) rfl (by kernel_rfl) (by kernel_rfl) (by kernel_rfl) (fun _ _ _ h => h) (Or.inl ⟨by kernel_rfl, ?_⟩) hHeld ?_
              rotate_left
              · (rintro W ⟨e0, ⟨e1, e2, e3, e4, e5⟩, ⟨e6, e7⟩, _⟩; go_simp; (try with_reducible rfl))
              (try simp only [Act.put, List.getElem_toArray, List.getElem_cons_succ, List.getElem_cons_zero, List.setIfInBounds_toArray, List.set_cons_succ, List.set_cons_zero])
              refine wpAnyH_take (i := 15) (v := ?_) rfl (by kernel_rfl) (by kernel_rfl) (by kernel_rfl) (fun _ _ _ h => h) (Or.inl ⟨by kernel_rfl, ?_⟩) hHeld ?_
              rotate_left
              · (rintro W ⟨e0, ⟨e1, e2, e3, e4, e5⟩, ⟨e6, e7⟩, _⟩; go_simp; (try with_reducible rfl))
              (try simp only [Act.put, List.getElem_toArray, List.getElem_cons_succ, List.getElem_cons_zero, List.setIfInBounds_toArray, List.set_cons_succ, List.set_cons_zero])
              refine wpAnyH_take (i := 16) (v := ?_) rfl (by kernel_rfl) (by kernel_rfl) (by kernel_rfl) (fun _ _ _ h => h) (Or.inl ⟨by kernel_rfl, ?_⟩) hHeld ?_
              rotate_left
              · (rintro W ⟨e0, ⟨e1, e2, e3, e4, e5⟩, ⟨e6, e7⟩, _⟩; go_simp; (try with_reducible rfl))
              (try simp only [Act.put, List.getElem_toArray, List.getElem_cons_succ, List.getElem_cons_zero, List.setIfInBounds_toArray, List.set_cons_succ, List.set_cons_zero])
              refine wpAnyH_take (i := 17) (v := ?_) rfl (by kernel_rfl) (by kernel_rfl) (by kernel_rfl) (fun _ _ _ h => h) (Or.inl ⟨by kernel_rfl, ?_⟩) hHeld ?_
              rotate_left
              · (rintro W ⟨e0, ⟨e1, e2, e3, e4, e5⟩, ⟨e6, e7⟩, _⟩; go_simp; (try with_reducible rfl))
              (try simp only [Act.put, List.getElem_toArray, List.getElem_cons_succ, List.getElem_cons_zero, List.setIfInBounds_toArray, List.set_cons_succ, List.set_cons_zero])
              refine wpAnyH_take (i := 18) (v := ?_) rfl (by kernel_rfl) (by kernel_rfl) (by kernel_rfl) (fun _ _ _ h => h) (Or.inl ⟨by kernel_rfl, ?_⟩) hHeld ?_
              rotate_left
              · (rintro W ⟨e0, ⟨e1, e2, e3, e4, e5⟩, ⟨e6, e7⟩, _⟩; go_simp; (try with_reducible rfl))
              (try simp only [Act.put, List.getElem_toArray, List.getElem_cons_succ, List.getElem_cons_zero, List.setIfInBounds_toArray, List.set_cons_succ, List.set_cons_zero])
              refine wpAnyH_take (i := 19) (v := ?_) rfl (by kernel_rfl) (by kernel_rfl) (by kernel_rfl) (fun _ _ _ h => h) (Or.inl ⟨by kernel_rfl, ?_⟩) hHeld ?_
              rotate_left
              · (rintro W ⟨e0, ⟨e1, e2, e3, e4, e5⟩, ⟨e6, e7⟩, _⟩; go_simp; (try with_reducible rfl))
              (try simp only [Act.put, List.getElem_toArray, List.getElem_cons_succ, List.getElem_cons_zero, List.setIfInBounds_toArray, List.set_cons_succ, List.set_cons_zero])
              refine wpAnyH_take (i := 20) (v := ?_) rfl (by kernel_rfl) (by kernel_rfl) (by kernel_rfl) (fun _ _ _ h => h) (Or.inl ⟨by kernel_rfl, ?_⟩) hHeld ?_
              rotate_left
              · (rintro W ⟨e0, ⟨e1, e2, e3, e4, e5⟩, ⟨e6, e7⟩, _⟩; go_simp; (try with_reducible rfl))
              (try simp only [Act.put, List.getElem_toArray, List.getElem_cons_succ, List.getElem_cons_zero, List.setIfInBounds_toArray, List.set_cons_succ, List.set_cons_zero])
              refine wpAnyH_take (i := 21) (v := ?_) rfl (by kernel_rfl) (by kernel_rfl) (by kernel_rfl) (fun _ _ _ h => h) (Or.inl ⟨by kernel_rfl, ?_⟩) hHeld ?_
              rotate_left
              · (rintro W ⟨e0, ⟨e1, e2, e3, e4, e5⟩, ⟨e6, e7⟩, _⟩; go_simp; (try with_reducible rfl))
              (try simp only [Act.put, List.getElem_toArray, List.getElem_cons_succ, List.getElem_cons_zero, List.setIfInBounds_toArray, List.set_cons_succ, List.set_cons_zero])
              refine wpAnyH_take (i := 22) (v := ?_) rfl (by kernel_rfl) (by kernel_rfl) (by kernel_rfl) (fun _ _ _ h => h) (Or.inl ⟨by kernel_rfl, ?_⟩) hHeld ?_
              rotate_left
              · (rintro W ⟨e0, ⟨e1, e2, e3, e4, e5⟩, ⟨e6, e7⟩, _⟩; go_simp; (try with_reducible rfl))
              (try simp only [Act.put, List.getElem_toArray, List.getElem_cons_succ, List.getElem_cons_zero, List.setIfInBounds_toArray, List.set_cons_succ, List.set_cons_zero])
              refine wpAnyH_take (i := 23) (v := ?_) rfl (by kernel_rfl) (by kernel_rfl) (by kernel_rfl) (fun _ _ _ h => h) (Or.inl ⟨by kernel_rfl, ?_⟩) hHeld ?_
              rotate_left
              · (rintro W ⟨e0, ⟨e1, e2, e3, e4, e5⟩, ⟨e6, e7⟩, _⟩; go_simp; (try with_reducible rfl))
              (try simp only [Act.put, List.getElem_toArray, List.getElem_cons_succ, List.getElem_cons_zero, List.setIfInBounds_toArray, List.set_cons_succ, List.set_cons_zero])
              refine wpAnyH_take (i := 24) (v := ?_) rfl (by kernel_rfl) (by kernel_rfl) (by kernel_rfl) (fun _ _ _ h => h) (Or.inl ⟨by kernel_rfl, ?_⟩) hHeld ?_
              rotate_left
              · (rintro W ⟨e0, ⟨e1, e2, e3, e4, e5⟩, ⟨e6, e7⟩, _⟩; go_simp; (try with_reducible rfl))
              (try simp only [Act.put, List.getElem_toArray, List.getElem_cons_succ, List.getElem_cons_zero, List.setIfInBounds_toArray, List.set_cons_succ, List.set_cons_zero])
              refine wpAnyH_take (i := 25) (v := ?_) rfl (by kernel_rfl) (by kernel_rfl) (by kernel_rfl) (fun _ _ _ h => h) (Or.inl ⟨by kernel_rfl, ?_⟩) hHeld ?_
              rotate_left
              · (rintro W ⟨e0, ⟨e1, e2, e3, e4, e5⟩, ⟨e6, e7⟩, _⟩; go_simp; (try with_reducible rfl))
              (try simp only [Act.put, List.getElem_toArray, List.getElem_cons_succ, List.getElem_cons_zero, List.setIfInBounds_toArray, List.set_cons_succ, List.set_cons_zero])
              refine wpAnyH_ready (rs := [26]) (by kernel_rfl) (by simp) ?_
              refine AllReadyH.cons rfl (fun K hK => ?_) AllReadyH.nil
              go_simp
              refine (HMt.out _ hHeld.2.2.2).mono ?_
              rintro e wu ⟨rfl, hk26⟩
              refine hK.out _ _ (hHeld.on hk26) (fun hHeld => ?_)
              clear hK K
              (try simp only [Act.put, List.getElem_toArray, List.getElem_cons_succ, List.getElem_cons_zero, List.setIfInBounds_toArray, List.set_cons_succ, List.set_cons_zero])
              refine wpAnyH_take (i := 27) (v := ?_) rfl (by kernel_rfl) (by kernel_rfl) (by kernel_rfl) (fun _ _ _ h => h) (Or.inl ⟨by kernel_rfl, ?_⟩) hHeld ?_
              rotate_left
              · (rintro W ⟨e0, ⟨e1, e2, e3, e4, e5⟩, ⟨e6, e7⟩, _⟩; go_simp; (try with_reducible rfl))
              (try simp only [Act.put, List.getElem_toArray, List.getElem_cons_succ, List.getElem_cons_zero, List.setIfInBounds_toArray, List.set_cons_succ, List.set_cons_zero])
              refine wpAnyH_take (i := 28) (v := ?_) rfl (by kernel_rfl) (by kernel_rfl) (by kernel_rfl) (fun _ _ _ h => h) (Or.inl ⟨by kernel_rfl, ?_⟩) hHeld ?_
              rotate_left
              · (rintro W ⟨e0, ⟨e1, e2, e3, e4, e5⟩, ⟨e6, e7⟩, _⟩; go_simp; (try with_reducible rfl))
              (try simp only [Act.put, List.getElem_toArray, List.getElem_cons_succ, List.getElem_cons_zero, List.setIfInBounds_toArray, List.set_cons_succ, List.set_cons_zero])
              refine wpAnyH_take (i := 29) (v := ?_) rfl (by kernel_rfl) (by kernel_rfl) (by kernel_rfl) (fun _ _ _ h => h) (Or.inl ⟨by kernel_rfl, ?_⟩) hHeld ?_
              rotate_left
              · (rintro W ⟨e0, ⟨e1, e2, e3, e4, e5⟩, ⟨e6, e7⟩, _⟩; go_simp; (try with_reducible rfl))
              (try simp only [Act.put, List.getElem_toArray, List.getElem_cons_succ, List.getElem_cons_zero, List.setIfInBounds_toArray, List.set_cons_succ, List.set_cons_zero])
              refine wpAnyH_done (by kernel_rfl) ?_ _
              have hbE := HD.out.trans (hHeld.2.2.2.mono HD.out.size)
              have HNx : Hid (SjRel r1 (xn, .slice ra xn.bs.length rcap) w.heap.size pk lk (.slice (some ⟨bn, qn, none⟩) needs.length nc) w w4 w6 (.bool r) (.int .i64 ((m + 1 : Nat) : Int)) wu) :=
                ⟨m + 1, r, HLm.out, rfl, rfl, by rw [HT.out, List.any_append, HAn.out]; simp [HHf.out], HCm.out.on hbE, below_then HBm.out hbE, below_then HBn.out hbE⟩
              clear hst hHeld hbE
              go_wp2_with fail
              go_roundw
              case rel => exact HNx.out
              case measure => have := HLm.out; simp [intOf]; omega
            · cases b
              case false =>
                exfalso
                have h := HAn.out
                rw [List.take_of_length_le (by omega), HHit.out] at h
                cases h
              have q5 : decide (m < r1.length) = false := decide_eq_false hlm
              have HLt := HJ.out
              clear hlm hca hb7 hb8
              go_wp2_with fail
              go_roundw
              case rel => exact ⟨j + 1, HLt, by go_num, HCm.out, HBm.out⟩
              case measure => simp [intOf]; omega
        · have q6 : decide (j < needs.length) = false := decide_eq_false hlt
          have HBf := Lib.hid hbw
          clear hlt h0 h1 hb6 hbw
          go_wp2_with fail
          refine (HA.out _ HBf.out).mono ?_
          rintro e wz ⟨rfl, hbz⟩
          have hbf := HBf.out.trans (hbz.mono HBf.out.size)
          clear h2 hbz
          go_wp2_with fail
          go_ret
          exact ⟨rfl, hbf⟩
end Go.Proofs.YtllkiedikjgkbaaGreatDoor
