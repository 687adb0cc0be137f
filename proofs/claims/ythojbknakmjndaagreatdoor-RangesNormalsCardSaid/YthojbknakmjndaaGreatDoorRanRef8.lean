/- The reference of layer 5: Normal: a walk. -/
import Derived.Test.YthojbknakmjndaaGreatDoorRanRef7
import Derived.Test.YthojbknakmjndaaGreatDoorRanNorm2
import Derived.Test.YthojbknakmjndaaGreatDoorRanRef5
import Derived.Maps.AppendAt
namespace Go
open Go.RowKit
/-- two rows of the call's own, in unlike blocks -/
def Apart (v u : Value) : Prop := ∀ g, v.ownBlock = some g → u.ownBlock ≠ some g
theorem Apart.symm {v u : Value} (h : Apart v u) : Apart u v := fun g h1 h2 => h g h2 h1
theorem own_lt {w : World} {B : Nat} {e : TypeId} {v : Value} {n : Nat} {xs : List Value} (h : w.ownsRow B e 5 v n xs) {g : Nat} (hg : v.ownBlock = some g) : g < w.heap.size := (h.lt g hg).2
theorem apart_grew {w : World} {B : Nat} {e : TypeId} {v u v' : Value} {n : Nat} {xs : List Value} (h : Apart v u) (hu : w.ownsRow B e 5 u n xs) {q : Nat} (hw : w.heap.size ≤ q) (hv : v'.ownBlock = v.ownBlock ∨ v'.ownBlock = some q) : Apart v' u := by
  intro g h1 h2
  have h3 := own_lt hu h2
  rcases hv with hv | hv
  · rw [hv] at h1; exact h g h1 h2
  · rw [hv] at h1; injection h1 with h1; omega
theorem own_grew {W w' : World} {B : Nat} {e : TypeId} {v u : Value} {n : Nat} {xs : List Value} (h : Apart v u) (hu : W.ownsRow B e 5 u n xs) (hg : W.grownBy w' v.ownBlock) : w'.ownsRow B e 5 u n xs := by
  refine hu.kept hg ?_
  cases hb : u.ownBlock with
  | none => exact .inl rfl
  | some g => right; intro e; exact h g e.symm hb
theorem grew_cell {W w' : World} {row : Option Nat} (hg : W.grownBy w' row) {b o : Nat} (hb : b < W.heap.size) (hr : row ≠ some b) : w'.cell? ⟨b, o, none⟩ = W.cell? ⟨b, o, none⟩ :=
  World.cell?_of_block (w := W) (hg.block b hb (fun e => hr e.symm))
theorem apart_nil : Apart (.slice none 0 0) (.slice none 0 0) := fun g h => by cases h
theorem BoxAt.set0 {w : World} {b : Nat} {x : Bnd} (h : BoxAt w b x) (hf : BoxF w b) (n : Int) : BoxAt (w.setCell ⟨b, 0, none⟩ (.int .i64 n)) b ⟨n, x.v⟩ ∧ BoxF (w.setCell ⟨b, 0, none⟩ (.int .i64 n)) b := by
  obtain ⟨h0, h1, h2, h3, h4⟩ := h
  obtain ⟨f0, f1, f2, f3, f4⟩ := hf
  refine ⟨⟨?_, ?_, ?_, ?_, ?_⟩, ?_, ?_, ?_, ?_, ?_⟩
  all_goals go_simp
theorem BoxF.far {w : World} {b c : Nat} (h : BoxF w b) (o : Nat) (v : Value) : BoxF (w.setCell ⟨c, o, none⟩ v) b := by
  unfold BoxF at h ⊢
  have hf : ∀ j, (w.setCell ⟨c, o, none⟩ v).frozen? ⟨b, j, none⟩ = w.frozen? ⟨b, j, none⟩ := fun j => by go_simp
  simp only [hf]
  exact h
end Go
namespace Go.Proofs.YthojbknakmjndaaGreatDoor
open Go.RowKit
/-- the two rows that the reference gathers -/
def TwoRows (w : World) (B : Nat) (lo hi : Value) (bs : List Bnd) : Prop :=
  w.ownsRow B 54 5 lo (lows bs).length ((lows bs).flatMap Bnd.cells) ∧ w.ownsRow B 54 5 hi (highs bs).length ((highs bs).flatMap Bnd.cells) ∧ Apart lo hi ∧ (∃ a c, lo = .slice a (lows bs).length c) ∧ (∃ a c, hi = .slice a (highs bs).length c)
def NoRel (w : World) (rs : List (Value × List Bnd)) (lo hi i : Value) (wr : World) : Prop :=
  ∃ k : Nat, k ≤ rs.length ∧ i = .int .i64 (k : Int) ∧ TwoRows wr (w.heap.size + 1) lo hi ((rs.take k).map Prod.snd).flatten ∧
    Below (w.heap.size + 1) (w.alloc (.cells #[.int .i64 1, .int .i64 0, .int .i64 0, .int .i64 0, .string ⟨#[48]⟩] 54)) wr
def NiRel (w : World) (pre bs : List Bnd) (lo hi i : Value) (wr : World) : Prop :=
  ∃ m : Nat, m ≤ bs.length ∧ i = .int .i64 (m : Int) ∧ TwoRows wr (w.heap.size + 1) lo hi (pre ++ bs.take m) ∧
    Below (w.heap.size + 1) (w.alloc (.cells #[.int .i64 1, .int .i64 0, .int .i64 0, .int .i64 0, .string ⟨#[48]⟩] 54)) wr
theorem lows_len (bs : List Bnd) : (lows bs).length ≤ bs.length ∧ (highs bs).length ≤ bs.length := by
  unfold lows highs
  exact ⟨Nat.le_trans (List.length_filter_le _ _) (by simp), Nat.le_trans (List.length_filter_le _ _) (by simp)⟩
theorem own_app5 {w : World} {B : Nat} {v : Value} {bs : List Bnd} {x : Bnd} {n : Nat} (h : w.ownsRow B 54 5 v n (bs.flatMap Bnd.cells ++ [.int .i64 x.op, .int .i64 x.v.a, .int .i64 x.v.b, .int .i64 x.v.c, .string x.v.p])) (hn : n = bs.length + 1) : w.ownsRow B 54 5 v (bs ++ [x]).length ((bs ++ [x]).flatMap Bnd.cells) := by
  rw [List.flatMap_append, List.length_append]; subst hn; exact h
/-- a bound more -/
theorem rows_step (pre bs : List Bnd) (m : Nat) (x z : Bnd) (ht : bs.take (m + 1) = bs.take m ++ [x]) (hz : x.fix = z) : lows (pre ++ bs.take (m + 1)) = (if 3 ≤ z.op then lows (pre ++ bs.take m) ++ [z] else lows (pre ++ bs.take m)) ∧ highs (pre ++ bs.take (m + 1)) = (if z.op ≤ 3 then highs (pre ++ bs.take m) ++ [z] else highs (pre ++ bs.take m)) := by
  rw [ht, ← List.append_assoc, lows_snoc, highs_snoc, hz]; exact ⟨rfl, rfl⟩
theorem flat_take_len (rs : List (Value × List Bnd)) (k : Nat) : (((rs.take k).map Prod.snd).flatten).length ≤ ((rs.map Prod.snd).flatten).length := by
  conv => rhs; rw [← List.take_append_drop k rs]
  rw [List.map_append, List.flatten_append, List.length_append]; omega
theorem bad_fix {x : Bnd} (h : x.op < 1 ∨ 5 < x.op) : x.fix = Bnd.nothing := by
  unfold Bnd.fix
  rw [if_neg]
  unfold opOk
  simp; omega
theorem good_fix {x : Bnd} (h1 : 1 ≤ x.op) (h2 : x.op ≤ 5) : x.fix = x := by
  unfold Bnd.fix
  rw [if_pos]
  unfold opOk
  simp; omega
theorem lows_ok {w : World} {v : Value} {B : Nat} {bs : List Bnd} (h : w.ownsRow B 54 5 v bs.length (bs.flatMap Bnd.cells)) : Bnds w v bs := Bnds.of_owns h
theorem low_sz (bs : List Bnd) (h : ∀ b ∈ bs, b.v.p.size ≤ 300) : (∀ b ∈ lows bs, b.v.p.size ≤ 300) ∧ (∀ b ∈ highs bs, b.v.p.size ≤ 300) := by
  have key : ∀ b ∈ bs.map Bnd.fix, b.v.p.size ≤ 300 := by
    intro b hb
    rw [List.mem_map] at hb
    obtain ⟨x, hx, rfl⟩ := hb
    unfold Bnd.fix
    split
    · exact h x hx
    · decide
  exact ⟨fun b hb => key b (List.mem_filter.1 hb).1, fun b hb => key b (List.mem_filter.1 hb).1⟩
theorem toLo_v (b : Bnd) : (toLo b).v = b.v := by unfold toLo; split <;> rfl
theorem toHi_v (b : Bnd) : (toHi b).v = b.v := by unfold toHi; split <;> rfl
theorem best_sz (way strict : Int) (bs : List Bnd) (h : ∀ b ∈ bs, b.v.p.size ≤ 300) : (bestR way strict bs).v.p.size ≤ 300 := by
  by_cases hn : bs = []
  · rw [hn]; show Bnd.zero.v.p.size ≤ 300; decide
  · exact h _ (best_mem way strict bs hn)
theorem norm_alt (all : List Bnd) (A B : Bnd) (hA : toLo (bestR 1 5 (lows all)) = A) (hB : toHi (bestR (-1) 1 (highs all)) = B) :
    normalE (endsOf all) = if lows all = [] then (if highs all = [] then [] else [B]) else if highs all = [] then [A] else if V4.cmp A.v B.v = 0 ∧ A.op = 4 ∧ B.op = 2 then [⟨3, A.v⟩] else if 0 ≤ V4.cmp A.v B.v then [Bnd.nothing] else [A, B] := by
  obtain ⟨h1, h2, _, _, h5, h6⟩ := ends_best all
  unfold normalE
  rw [h1, h2, hA, hB]
  have e1 : A.op = 0 ↔ lows all = [] := by
    constructor
    · intro h
      by_cases hl : lows all = []
      · exact hl
      · have := h5 hl
        rw [← hA] at h
        unfold toLo at h
        split at h
        · exact absurd h (by show ¬ (4 : Int) = 0; decide)
        · omega
    · intro h; rw [← hA, h]; rfl
  have e2 : B.op = 0 ↔ highs all = [] := by
    constructor
    · intro h
      by_cases hl : highs all = []
      · exact hl
      · have := h6 hl
        rw [← hB] at h
        unfold toHi at h
        split at h
        · exact absurd h (by show ¬ (2 : Int) = 0; decide)
        · omega
    · intro h; rw [← hB, h]; rfl
  simp only [e1, e2]
theorem ok_nil {bs : List Bnd} {b : Bool} (h : decide (0 < bs.length) = b) : (bs = [] ↔ b = false) := by
  rw [← h]; cases bs <;> simp
def RR (B0 Ba Bb : Nat) (A B : Bnd) (w wx : World) : Prop := BoxAt wx B0 Bnd.nothing ∧ BoxAt wx Ba A ∧ BoxF wx Ba ∧ BoxAt wx Bb B ∧ BoxF wx Bb ∧ Below w.heap.size w wx
set_option maxRecDepth 100000 in
set_option maxHeartbeats 32000000 in
theorem refNormal_any (v : Value) (rs : List (Value × List Bnd)) (w : World) (hv : Rngs w v rs) (hlen : ∃ a cap, v = .slice a rs.length cap) (hsz : ∀ r ∈ rs, ∀ x ∈ r.2, x.v.p.size ≤ 300) (hn : ((rs.map Prod.snd).flatten).length ≤ 100000) :
    Calls Tryz.prog 23 #[v] w fun e w' => ∃ x, e = .returned x ∧ Bnds w' x (normalR (rs.map Prod.snd)) ∧ (∃ a cap, x = .slice a (normalR (rs.map Prod.snd)).length cap) ∧ Below w.heap.size w w' := by
  have HI := Lib.hid (info_parts info_bound)
  have HC := Lib.hid hv.cases
  have HR := Lib.hid hv.2
  have HSz := Lib.hid hsz
  have HNn := Lib.hid hn
  have hrl : rs.length ≤ 9223372036854775807 := by have := hv.1.2.1; unfold maxLen at this; omega
  clear hv hsz hn
  obtain ⟨all, hall⟩ : ∃ all, (rs.map Prod.snd).flatten = all := ⟨_, rfl⟩
  have hszs : ∀ b ∈ all, b.v.p.size ≤ 300 := by
    rw [← hall]
    have := mem_flat HSz.out rs.length
    rw [List.take_of_length_le (Nat.le_refl _)] at this
    exact this
  have HN : Hid (normalR (rs.map Prod.snd) = normalE (endsOf all)) := by show _ = _; unfold normalR; rw [hall]
  obtain ⟨N, hN⟩ : ∃ N, normalR (rs.map Prod.snd) = N := ⟨_, rfl⟩
  rw [hN] at HN ⊢
  have HAll := Lib.hid hall
  have HZs := Lib.hid hszs
  clear hall hszs hN
  obtain ⟨a0, cap0, rfl⟩ := hlen
  go_enter Tryz.func23, Tryz.ntmps23
  go_wp2_with fail
  go_loopw [4, 5, 6, 7, 8] (fun lo hi i _ _ wr => NoRel w rs lo hi i wr) (fun _ _ i _ _ _ => rs.length - (intOf i).toNat)
  case atStart => exact ⟨0, Nat.zero_le _, rfl, ⟨World.ownsRow_nil _ _ _ _, World.ownsRow_nil _ _ _ _, apart_nil, ⟨_, _, rfl⟩, ⟨_, _, rfl⟩⟩, Below.refl _ _⟩
  case round =>
    obtain ⟨k, hk, rfl, htr, hb⟩ := hrel
    have HTR := Lib.hid htr
    clear htr
    have hW := below_first hb
    by_cases hlt : k < rs.length
    · have i0 : (0 : Int) ≤ (k : Int) := by omega
      have i1 : (k : Int) < (rs.length : Int) := by omega
      obtain ⟨bx, ox, cap, hva, hn0, hbx, hc⟩ : ∃ b off cap, (Value.slice a0 rs.length cap0 = Value.slice (some ⟨b, off, none⟩) rs.length cap) ∧ 0 < rs.length ∧ b < w.heap.size ∧ ∀ j (h : j < rs.length), w.cell? ⟨b, off + j, none⟩ = some rs[j].1 := by
        rcases HC.out with ⟨a, cap, hva, he⟩ | h
        · rw [he] at hlt; simp at hlt
        · exact h
      have ha0 : a0 = some ⟨bx, ox, none⟩ := by injection hva
      subst ha0
      have HCk := Lib.hid (hc k hlt)
      have hrk := HR.out _ (List.getElem_mem hlt)
      have HTk := Lib.hid (take_flat rs k hlt)
      have HLk := Lib.hid (flat_take_len rs (k + 1))
      obtain ⟨r, hr⟩ : ∃ r, rs[k] = r := ⟨_, rfl⟩
      rw [hr] at HCk hrk HTk
      obtain ⟨rv, bs⟩ := r
      obtain ⟨hbs, ra, rcap, hrv⟩ := hrk
      simp only at hbs hrv HCk
      subst hrv
      have HB := Lib.hid hbs.cases.2
      have hbl : bs.length ≤ 9223372036854775807 := by have := hbs.cases.1; unfold maxLen at this; omega
      obtain ⟨pre, hpre⟩ : ∃ pre, ((rs.take k).map Prod.snd).flatten = pre := ⟨_, rfl⟩
      rw [hpre] at HTk HTR
      have HPl : Hid (pre.length + bs.length ≤ 100000) := by
        have h := HLk.out
        rw [HTk.out, List.length_append] at h
        dsimp only at h
        have := HNn.out
        show _ ≤ _
        omega
      clear hc hva hr hbs hpre
      go_wp2_with fail
      obtain ⟨wo, hwo⟩ : ∃ wo : World, wo = wr := ⟨_, rfl⟩
      subst hwo
      go_loopw [4, 5, 7, 8] (fun lo hi i _ wi => NiRel w pre bs lo hi i wi) (fun _ _ i _ _ => bs.length - (intOf i).toNat)
      case atStart => exact ⟨0, Nat.zero_le _, rfl, by rw [List.take_zero, List.append_nil]; exact HTR.out, hb⟩
      case round =>
        obtain ⟨m, hm, rfl, htr, hb⟩ := hrel
        have hs := hb.size
        simp at hs
        have hW := below_first hb
        have c0 := (hW.cell (p := ⟨bx, ox + k, none⟩) hbx).trans HCk.out
        have HTRi := Lib.hid htr
        clear htr
        by_cases hlm : m < bs.length
        · have j0 : (0 : Int) ≤ (m : Int) := by omega
          have j1 : (m : Int) < (bs.length : Int) := by omega
          obtain ⟨by', oy, cap2, hva, hn2, hby, hd⟩ : ∃ b off cap, (Value.slice ra bs.length rcap = Value.slice (some ⟨b, off, none⟩) bs.length cap) ∧ 0 < bs.length ∧ b < w.heap.size ∧ ∀ j (h : j < bs.length), w.cell? ⟨b, off + j * 5, none⟩ = some (.int .i64 bs[j].op) ∧
              w.cell? ⟨b, off + j * 5 + 1, none⟩ = some (.int .i64 bs[j].v.a) ∧ w.cell? ⟨b, off + j * 5 + 2, none⟩ = some (.int .i64 bs[j].v.b) ∧ w.cell? ⟨b, off + j * 5 + 3, none⟩ = some (.int .i64 bs[j].v.c) ∧
              w.cell? ⟨b, off + j * 5 + 4, none⟩ = some (.string bs[j].v.p) := by
            rcases HB.out with ⟨a, cap, hva, he⟩ | h
            · rw [he] at hlm; simp at hlm
            · exact h
          have ha0 : ra = some ⟨by', oy, none⟩ := by injection hva
          subst ha0
          obtain ⟨g0, g1, g2, g3, g4⟩ := hd m hlm
          have d0 := (hW.cell (p := ⟨by', oy + m * 5, none⟩) hby).trans g0
          have d1 := (hW.cell (p := ⟨by', oy + m * 5 + 1, none⟩) hby).trans g1
          have d2 := (hW.cell (p := ⟨by', oy + m * 5 + 2, none⟩) hby).trans g2
          have d3 := (hW.cell (p := ⟨by', oy + m * 5 + 3, none⟩) hby).trans g3
          have d4 := (hW.cell (p := ⟨by', oy + m * 5 + 4, none⟩) hby).trans g4
          have z0 := box_cells hb 0
          have z1 := box_cells hb 1
          have z2 := box_cells hb 2
          have z3 := box_cells hb 3
          have z4 := box_cells hb 4
          simp at z0 z1 z2 z3 z4
          have hzl := cell_lt z0
          have HTi := Lib.hid (List.take_succ_eq_append_getElem hlm)
          have hlz := lows_len (pre ++ bs.take m)
          have hlz2 : (pre ++ bs.take m).length ≤ 100000 := by
            have := HPl.out
            rw [List.length_append, List.length_take]; omega
          obtain ⟨⟨xo, ⟨xa, xb, xc, xp⟩⟩, hxe⟩ : ∃ x, bs[m] = x := ⟨_, rfl⟩
          rw [hxe] at d0 d1 d2 d3 d4 HTi
          simp only at d0 d1 d2 d3 d4
          obtain ⟨ho1, ho2, hap, ⟨la, lc, rfl⟩, ⟨ha, hc, rfl⟩⟩ := HTRi.out
          obtain ⟨L, hL⟩ : ∃ L, lows (pre ++ bs.take m) = L := ⟨_, rfl⟩
          obtain ⟨H, hH⟩ : ∃ H, highs (pre ++ bs.take m) = H := ⟨_, rfl⟩
          have HSt := Lib.hid (fun z hz => rows_step pre bs m ⟨xo, ⟨xa, xb, xc, xp⟩⟩ z HTi.out hz)
          rw [hL, hH] at hlz HSt
          rw [hL] at ho1 hap ⊢
          rw [hH] at ho2 hap ⊢
          have HO1 := Lib.hid ho1
          have HO2 := Lib.hid ho2
          have HAp := Lib.hid hap
          have hL5 : L.length ≤ 100000 := by omega
          have hH5 : H.length ≤ 100000 := by omega
          have hne1 : (Value.slice la L.length lc).ownBlock ≠ some wr.heap.size := fun e => by have := own_lt ho1 e; omega
          have HNe := Lib.hid hne1
          obtain ⟨i0', hi1, hz0, hz1, hz2⟩ := HI.out
          clear g0 g1 g2 g3 g4 hd hva hxe hL hH hlz hlz2 ho1 ho2 hap HTRi hne1
          have hcase : xo < 1 ∨ 5 < xo ∨ xo = 1 ∨ xo = 2 ∨ xo = 3 ∨ xo = 4 ∨ xo = 5 := by omega
          rcases hcase with hx | hx | rfl | rfl | rfl | rfl | rfl
          · have q1 : decide (xo < 1) = true := decide_eq_true hx
            have HF := HSt.out ⟨1, ⟨0, 0, 0, ⟨#[48]⟩⟩⟩ (bad_fix (.inl hx))
            have HFl : Hid (lows (pre ++ bs.take (m + 1)) = L) := by have h := HF.1; rw [if_neg (show ¬ (3 : Int) ≤ 1 by decide)] at h; exact h
            have HFh : Hid (highs (pre ++ bs.take (m + 1)) = H ++ [⟨1, ⟨0, 0, 0, ⟨#[48]⟩⟩⟩]) := by have h := HF.2; rw [if_pos (show (1 : Int) ≤ 3 by decide)] at h; exact h
            clear HF HSt
            have HO2w := HO2
            go_wp2_with (at_builtin; go_must (refine wpList_append_own_at _ rfl _ _ 23 rfl (w.heap.size + 1) 54 i0' (.agg #[.int .i64 0, .int .i64 0, .int .i64 0, .int .i64 0, .string ⟨#[]⟩]) 5 48 Tryz.underlying23 hi1 hz0 hz1 hz2 rfl (by decide) _ _ _ rfl ((HO2.out.alloc _).alloc _) ⟨_, 0, none⟩ 1 1 [.int .i64 1, .int .i64 0, .int .i64 0, .int .i64 0, .string ⟨#[48]⟩] rfl rfl ?c1 ?c2 ?c3 ?c4 ?c5 ?_))
            case c1 => exact cells5_at _ _ (by simp) _ _ _ _ _ _
            case c2 => intro u hu; simp at hu; rcases hu with rfl | rfl | rfl | rfl | rfl <;> rfl
            case c3 => unfold maxLen; omega
            case c4 => omega
            case c5 => simp; omega
            intro v3 w3 hown3 hg3 _ hbk3
            have hb3 := below_grown ((hb.alloc hs _).alloc (by simp; omega) _) ((HO2.out.alloc _).alloc _) hg3 (by simp; omega)
            have HO1n := Lib.hid (own_grew HAp.out.symm ((HO1.out.alloc _).alloc _) hg3)
            have HAp := Lib.hid (Apart.symm (apart_grew HAp.out.symm HO1.out (by first | omega | (simp; done) | (simp; omega)) hbk3))
            obtain ⟨g3, cap3, hv3⟩ := Joins.ownsRow_form hown3 (by omega)
            subst hv3
            have HO2n := Lib.hid (own_app5 (bs := H) (x := ⟨1, ⟨0, 0, 0, ⟨#[48]⟩⟩⟩) hown3 rfl)
            clear hg3 hown3 hbk3
            go_wp2
            go_roundw
            case rel =>
              exact ⟨m + 1, hlm, by go_num, ⟨by rw [HFl.out]; exact HO1n.out, by rw [HFh.out]; exact HO2n.out, HAp.out, ⟨_, _, by rw [HFl.out]⟩, ⟨_, _, by rw [HFh.out, List.length_append]; rfl⟩⟩, hb3⟩
            case measure => simp [intOf]; omega
          · have q1 : decide (xo < 1) = false := decide_eq_false (by omega)
            have q2 : decide (5 < xo) = true := decide_eq_true hx
            have HF := HSt.out ⟨1, ⟨0, 0, 0, ⟨#[48]⟩⟩⟩ (bad_fix (.inr hx))
            have HFl : Hid (lows (pre ++ bs.take (m + 1)) = L) := by have h := HF.1; rw [if_neg (show ¬ (3 : Int) ≤ 1 by decide)] at h; exact h
            have HFh : Hid (highs (pre ++ bs.take (m + 1)) = H ++ [⟨1, ⟨0, 0, 0, ⟨#[48]⟩⟩⟩]) := by have h := HF.2; rw [if_pos (show (1 : Int) ≤ 3 by decide)] at h; exact h
            clear HF HSt
            have HO2w := HO2
            go_wp2_with (at_builtin; go_must (refine wpList_append_own_at _ rfl _ _ 23 rfl (w.heap.size + 1) 54 i0' (.agg #[.int .i64 0, .int .i64 0, .int .i64 0, .int .i64 0, .string ⟨#[]⟩]) 5 48 Tryz.underlying23 hi1 hz0 hz1 hz2 rfl (by decide) _ _ _ rfl ((HO2.out.alloc _).alloc _) ⟨_, 0, none⟩ 1 1 [.int .i64 1, .int .i64 0, .int .i64 0, .int .i64 0, .string ⟨#[48]⟩] rfl rfl ?c1 ?c2 ?c3 ?c4 ?c5 ?_))
            case c1 => exact cells5_at _ _ (by simp) _ _ _ _ _ _
            case c2 => intro u hu; simp at hu; rcases hu with rfl | rfl | rfl | rfl | rfl <;> rfl
            case c3 => unfold maxLen; omega
            case c4 => omega
            case c5 => simp; omega
            intro v3 w3 hown3 hg3 _ hbk3
            have hb3 := below_grown ((hb.alloc hs _).alloc (by simp; omega) _) ((HO2.out.alloc _).alloc _) hg3 (by simp; omega)
            have HO1n := Lib.hid (own_grew HAp.out.symm ((HO1.out.alloc _).alloc _) hg3)
            have HAp := Lib.hid (Apart.symm (apart_grew HAp.out.symm HO1.out (by first | omega | (simp; done) | (simp; omega)) hbk3))
            obtain ⟨g3, cap3, hv3⟩ := Joins.ownsRow_form hown3 (by omega)
            subst hv3
            have HO2n := Lib.hid (own_app5 (bs := H) (x := ⟨1, ⟨0, 0, 0, ⟨#[48]⟩⟩⟩) hown3 rfl)
            clear hg3 hown3 hbk3
            go_wp2
            go_roundw
            case rel =>
              exact ⟨m + 1, hlm, by go_num, ⟨by rw [HFl.out]; exact HO1n.out, by rw [HFh.out]; exact HO2n.out, HAp.out, ⟨_, _, by rw [HFl.out]⟩, ⟨_, _, by rw [HFh.out, List.length_append]; rfl⟩⟩, hb3⟩
            case measure => simp [intOf]; omega
          · skip
            have HF := HSt.out ⟨1, ⟨xa, xb, xc, xp⟩⟩ (good_fix (by show (1 : Int) ≤ 1; decide) (by show (1 : Int) ≤ 5; decide))
            have HFl : Hid (lows (pre ++ bs.take (m + 1)) = L) := by have h := HF.1; rw [if_neg (show ¬ (3 : Int) ≤ 1 by decide)] at h; exact h
            have HFh : Hid (highs (pre ++ bs.take (m + 1)) = H ++ [⟨1, ⟨xa, xb, xc, xp⟩⟩]) := by have h := HF.2; rw [if_pos (show (1 : Int) ≤ 3 by decide)] at h; exact h
            clear HF HSt
            have HO2w := HO2
            go_wp2_with (at_builtin; go_must (refine wpList_append_own_at _ rfl _ _ 23 rfl (w.heap.size + 1) 54 i0' (.agg #[.int .i64 0, .int .i64 0, .int .i64 0, .int .i64 0, .string ⟨#[]⟩]) 5 48 Tryz.underlying23 hi1 hz0 hz1 hz2 rfl (by decide) _ _ _ rfl ((HO2.out.alloc _).alloc _) ⟨_, 0, none⟩ 1 1 [.int .i64 1, .int .i64 xa, .int .i64 xb, .int .i64 xc, .string xp] rfl rfl ?c1 ?c2 ?c3 ?c4 ?c5 ?_))
            case c1 => exact cells5_at _ _ (by simp) _ _ _ _ _ _
            case c2 => intro u hu; simp at hu; rcases hu with rfl | rfl | rfl | rfl | rfl <;> rfl
            case c3 => unfold maxLen; omega
            case c4 => omega
            case c5 => simp; omega
            intro v3 w3 hown3 hg3 _ hbk3
            have hb3 := below_grown ((hb.alloc hs _).alloc (by simp; omega) _) ((HO2.out.alloc _).alloc _) hg3 (by simp; omega)
            have HO1n := Lib.hid (own_grew HAp.out.symm ((HO1.out.alloc _).alloc _) hg3)
            have HAp := Lib.hid (Apart.symm (apart_grew HAp.out.symm HO1.out (by first | omega | (simp; done) | (simp; omega)) hbk3))
            obtain ⟨g3, cap3, hv3⟩ := Joins.ownsRow_form hown3 (by omega)
            subst hv3
            have HO2n := Lib.hid (own_app5 (bs := H) (x := ⟨1, ⟨xa, xb, xc, xp⟩⟩) hown3 rfl)
            clear hg3 hown3 hbk3
            go_wp2
            go_roundw
            case rel =>
              exact ⟨m + 1, hlm, by go_num, ⟨by rw [HFl.out]; exact HO1n.out, by rw [HFh.out]; exact HO2n.out, HAp.out, ⟨_, _, by rw [HFl.out]⟩, ⟨_, _, by rw [HFh.out, List.length_append]; rfl⟩⟩, hb3⟩
            case measure => simp [intOf]; omega
          · skip
            have HF := HSt.out ⟨2, ⟨xa, xb, xc, xp⟩⟩ (good_fix (by show (1 : Int) ≤ 2; decide) (by show (2 : Int) ≤ 5; decide))
            have HFl : Hid (lows (pre ++ bs.take (m + 1)) = L) := by have h := HF.1; rw [if_neg (show ¬ (3 : Int) ≤ 2 by decide)] at h; exact h
            have HFh : Hid (highs (pre ++ bs.take (m + 1)) = H ++ [⟨2, ⟨xa, xb, xc, xp⟩⟩]) := by have h := HF.2; rw [if_pos (show (2 : Int) ≤ 3 by decide)] at h; exact h
            clear HF HSt
            have HO2w := HO2
            go_wp2_with (at_builtin; go_must (refine wpList_append_own_at _ rfl _ _ 23 rfl (w.heap.size + 1) 54 i0' (.agg #[.int .i64 0, .int .i64 0, .int .i64 0, .int .i64 0, .string ⟨#[]⟩]) 5 48 Tryz.underlying23 hi1 hz0 hz1 hz2 rfl (by decide) _ _ _ rfl ((HO2.out.alloc _).alloc _) ⟨_, 0, none⟩ 1 1 [.int .i64 2, .int .i64 xa, .int .i64 xb, .int .i64 xc, .string xp] rfl rfl ?c1 ?c2 ?c3 ?c4 ?c5 ?_))
            case c1 => exact cells5_at _ _ (by simp) _ _ _ _ _ _
            case c2 => intro u hu; simp at hu; rcases hu with rfl | rfl | rfl | rfl | rfl <;> rfl
            case c3 => unfold maxLen; omega
            case c4 => omega
            case c5 => simp; omega
            intro v3 w3 hown3 hg3 _ hbk3
            have hb3 := below_grown ((hb.alloc hs _).alloc (by simp; omega) _) ((HO2.out.alloc _).alloc _) hg3 (by simp; omega)
            have HO1n := Lib.hid (own_grew HAp.out.symm ((HO1.out.alloc _).alloc _) hg3)
            have HAp := Lib.hid (Apart.symm (apart_grew HAp.out.symm HO1.out (by first | omega | (simp; done) | (simp; omega)) hbk3))
            obtain ⟨g3, cap3, hv3⟩ := Joins.ownsRow_form hown3 (by omega)
            subst hv3
            have HO2n := Lib.hid (own_app5 (bs := H) (x := ⟨2, ⟨xa, xb, xc, xp⟩⟩) hown3 rfl)
            clear hg3 hown3 hbk3
            go_wp2
            go_roundw
            case rel =>
              exact ⟨m + 1, hlm, by go_num, ⟨by rw [HFl.out]; exact HO1n.out, by rw [HFh.out]; exact HO2n.out, HAp.out, ⟨_, _, by rw [HFl.out]⟩, ⟨_, _, by rw [HFh.out, List.length_append]; rfl⟩⟩, hb3⟩
            case measure => simp [intOf]; omega
          · skip
            have HF := HSt.out ⟨3, ⟨xa, xb, xc, xp⟩⟩ (good_fix (by show (1 : Int) ≤ 3; decide) (by show (3 : Int) ≤ 5; decide))
            have HFl : Hid (lows (pre ++ bs.take (m + 1)) = L ++ [⟨3, ⟨xa, xb, xc, xp⟩⟩]) := by have h := HF.1; rw [if_pos (show (3 : Int) ≤ 3 by decide)] at h; exact h
            have HFh : Hid (highs (pre ++ bs.take (m + 1)) = H ++ [⟨3, ⟨xa, xb, xc, xp⟩⟩]) := by have h := HF.2; rw [if_pos (show (3 : Int) ≤ 3 by decide)] at h; exact h
            clear HF HSt
            have HO2w := HO2
            go_wp2_with (at_builtin; go_must (refine wpList_append_own_at _ rfl _ _ 23 rfl (w.heap.size + 1) 54 i0' (.agg #[.int .i64 0, .int .i64 0, .int .i64 0, .int .i64 0, .string ⟨#[]⟩]) 5 48 Tryz.underlying23 hi1 hz0 hz1 hz2 rfl (by decide) _ _ _ rfl ((HO1.out.alloc _).alloc _) ⟨_, 0, none⟩ 1 1 [.int .i64 3, .int .i64 xa, .int .i64 xb, .int .i64 xc, .string xp] rfl rfl ?c1 ?c2 ?c3 ?c4 ?c5 ?_))
            case c1 => exact cells5_at _ _ (by simp) _ _ _ _ _ _
            case c2 => intro u hu; simp at hu; rcases hu with rfl | rfl | rfl | rfl | rfl <;> rfl
            case c3 => unfold maxLen; omega
            case c4 => omega
            case c5 => simp; omega
            intro v2 w2 hown2 hg2 _ hbk2
            have hb2 := below_grown ((hb.alloc hs _).alloc (by simp; omega) _) ((HO1.out.alloc _).alloc _) hg2 (by simp; omega)
            have HO2 := Lib.hid (own_grew HAp.out ((HO2.out.alloc _).alloc _) hg2)
            have HAp := Lib.hid (apart_grew HAp.out ((HO2w.out)) (by first | omega | (simp; done) | (simp; omega)) hbk2)
            obtain ⟨g2, cap2, hv2⟩ := Joins.ownsRow_form hown2 (by omega)
            subst hv2
            have HO1 := Lib.hid (own_app5 (bs := L) (x := ⟨3, ⟨xa, xb, xc, xp⟩⟩) hown2 rfl)
            have b0 : w2.cell? ⟨wr.heap.size, 0, none⟩ = some (.int .i64 3) := (grew_cell hg2 (by simp; omega) HNe.out).trans (by go_simp)
            have b1 : w2.cell? ⟨wr.heap.size, 1, none⟩ = some (.int .i64 xa) := (grew_cell hg2 (by simp; omega) HNe.out).trans (by go_simp)
            have b2 : w2.cell? ⟨wr.heap.size, 2, none⟩ = some (.int .i64 xb) := (grew_cell hg2 (by simp; omega) HNe.out).trans (by go_simp)
            have b3 : w2.cell? ⟨wr.heap.size, 3, none⟩ = some (.int .i64 xc) := (grew_cell hg2 (by simp; omega) HNe.out).trans (by go_simp)
            have b4 : w2.cell? ⟨wr.heap.size, 4, none⟩ = some (.string xp) := (grew_cell hg2 (by simp; omega) HNe.out).trans (by go_simp)
            have hs2 := hb2.size
            simp at hs2
            clear hg2 hown2 hbk2 d0 d1 d2 d3 d4
            go_wp2_with (at_builtin; go_must (refine wpList_append_own_at _ rfl _ _ 23 rfl (w.heap.size + 1) 54 i0' (.agg #[.int .i64 0, .int .i64 0, .int .i64 0, .int .i64 0, .string ⟨#[]⟩]) 5 48 Tryz.underlying23 hi1 hz0 hz1 hz2 rfl (by decide) _ _ _ rfl (HO2.out.alloc _) ⟨_, 0, none⟩ 1 1 [.int .i64 3, .int .i64 xa, .int .i64 xb, .int .i64 xc, .string xp] rfl rfl ?c1 ?c2 ?c3 ?c4 ?c5 ?_))
            case c1 => exact cells5_at _ _ (by simp) _ _ _ _ _ _
            case c2 => intro u hu; simp at hu; rcases hu with rfl | rfl | rfl | rfl | rfl <;> rfl
            case c3 => unfold maxLen; omega
            case c4 => omega
            case c5 => simp; omega
            intro v3 w3 hown3 hg3 _ hbk3
            have hb3 := below_grown (hb2.alloc (by omega) _) (HO2.out.alloc _) hg3 (by simp; omega)
            have HO1n := Lib.hid (own_grew HAp.out.symm (HO1.out.alloc _) hg3)
            have HAp := Lib.hid (Apart.symm (apart_grew HAp.out.symm HO1.out (by first | omega | (simp; done) | (simp; omega)) hbk3))
            obtain ⟨g3, cap3, hv3⟩ := Joins.ownsRow_form hown3 (by omega)
            subst hv3
            have HO2n := Lib.hid (own_app5 (bs := H) (x := ⟨3, ⟨xa, xb, xc, xp⟩⟩) hown3 rfl)
            clear hg3 hown3 hbk3
            go_wp2
            go_roundw
            case rel =>
              exact ⟨m + 1, hlm, by go_num, ⟨by rw [HFl.out]; exact HO1n.out, by rw [HFh.out]; exact HO2n.out, HAp.out, ⟨_, _, by rw [HFl.out, List.length_append]; rfl⟩, ⟨_, _, by rw [HFh.out, List.length_append]; rfl⟩⟩, hb3⟩
            case measure => simp [intOf]; omega
          · skip
            have HF := HSt.out ⟨4, ⟨xa, xb, xc, xp⟩⟩ (good_fix (by show (1 : Int) ≤ 4; decide) (by show (4 : Int) ≤ 5; decide))
            have HFl : Hid (lows (pre ++ bs.take (m + 1)) = L ++ [⟨4, ⟨xa, xb, xc, xp⟩⟩]) := by have h := HF.1; rw [if_pos (show (3 : Int) ≤ 4 by decide)] at h; exact h
            have HFh : Hid (highs (pre ++ bs.take (m + 1)) = H) := by have h := HF.2; rw [if_neg (show ¬ (4 : Int) ≤ 3 by decide)] at h; exact h
            clear HF HSt
            have HO2w := HO2
            go_wp2_with (at_builtin; go_must (refine wpList_append_own_at _ rfl _ _ 23 rfl (w.heap.size + 1) 54 i0' (.agg #[.int .i64 0, .int .i64 0, .int .i64 0, .int .i64 0, .string ⟨#[]⟩]) 5 48 Tryz.underlying23 hi1 hz0 hz1 hz2 rfl (by decide) _ _ _ rfl ((HO1.out.alloc _).alloc _) ⟨_, 0, none⟩ 1 1 [.int .i64 4, .int .i64 xa, .int .i64 xb, .int .i64 xc, .string xp] rfl rfl ?c1 ?c2 ?c3 ?c4 ?c5 ?_))
            case c1 => exact cells5_at _ _ (by simp) _ _ _ _ _ _
            case c2 => intro u hu; simp at hu; rcases hu with rfl | rfl | rfl | rfl | rfl <;> rfl
            case c3 => unfold maxLen; omega
            case c4 => omega
            case c5 => simp; omega
            intro v2 w2 hown2 hg2 _ hbk2
            have hb2 := below_grown ((hb.alloc hs _).alloc (by simp; omega) _) ((HO1.out.alloc _).alloc _) hg2 (by simp; omega)
            have HO2 := Lib.hid (own_grew HAp.out ((HO2.out.alloc _).alloc _) hg2)
            have HAp := Lib.hid (apart_grew HAp.out ((HO2w.out)) (by first | omega | (simp; done) | (simp; omega)) hbk2)
            obtain ⟨g2, cap2, hv2⟩ := Joins.ownsRow_form hown2 (by omega)
            subst hv2
            have HO1 := Lib.hid (own_app5 (bs := L) (x := ⟨4, ⟨xa, xb, xc, xp⟩⟩) hown2 rfl)
            have b0 : w2.cell? ⟨wr.heap.size, 0, none⟩ = some (.int .i64 4) := (grew_cell hg2 (by simp; omega) HNe.out).trans (by go_simp)
            have b1 : w2.cell? ⟨wr.heap.size, 1, none⟩ = some (.int .i64 xa) := (grew_cell hg2 (by simp; omega) HNe.out).trans (by go_simp)
            have b2 : w2.cell? ⟨wr.heap.size, 2, none⟩ = some (.int .i64 xb) := (grew_cell hg2 (by simp; omega) HNe.out).trans (by go_simp)
            have b3 : w2.cell? ⟨wr.heap.size, 3, none⟩ = some (.int .i64 xc) := (grew_cell hg2 (by simp; omega) HNe.out).trans (by go_simp)
            have b4 : w2.cell? ⟨wr.heap.size, 4, none⟩ = some (.string xp) := (grew_cell hg2 (by simp; omega) HNe.out).trans (by go_simp)
            have hs2 := hb2.size
            simp at hs2
            clear hg2 hown2 hbk2 d0 d1 d2 d3 d4
            go_wp2_with fail
            go_roundw
            case rel =>
              exact ⟨m + 1, hlm, by go_num, ⟨by rw [HFl.out]; exact HO1.out, by rw [HFh.out]; exact HO2.out, HAp.out, ⟨_, _, by rw [HFl.out, List.length_append]; rfl⟩, ⟨_, _, by rw [HFh.out]⟩⟩, hb2⟩
            case measure => simp [intOf]; omega
          · skip
            have HF := HSt.out ⟨5, ⟨xa, xb, xc, xp⟩⟩ (good_fix (by show (1 : Int) ≤ 5; decide) (by show (5 : Int) ≤ 5; decide))
            have HFl : Hid (lows (pre ++ bs.take (m + 1)) = L ++ [⟨5, ⟨xa, xb, xc, xp⟩⟩]) := by have h := HF.1; rw [if_pos (show (3 : Int) ≤ 5 by decide)] at h; exact h
            have HFh : Hid (highs (pre ++ bs.take (m + 1)) = H) := by have h := HF.2; rw [if_neg (show ¬ (5 : Int) ≤ 3 by decide)] at h; exact h
            clear HF HSt
            have HO2w := HO2
            go_wp2_with (at_builtin; go_must (refine wpList_append_own_at _ rfl _ _ 23 rfl (w.heap.size + 1) 54 i0' (.agg #[.int .i64 0, .int .i64 0, .int .i64 0, .int .i64 0, .string ⟨#[]⟩]) 5 48 Tryz.underlying23 hi1 hz0 hz1 hz2 rfl (by decide) _ _ _ rfl ((HO1.out.alloc _).alloc _) ⟨_, 0, none⟩ 1 1 [.int .i64 5, .int .i64 xa, .int .i64 xb, .int .i64 xc, .string xp] rfl rfl ?c1 ?c2 ?c3 ?c4 ?c5 ?_))
            case c1 => exact cells5_at _ _ (by simp) _ _ _ _ _ _
            case c2 => intro u hu; simp at hu; rcases hu with rfl | rfl | rfl | rfl | rfl <;> rfl
            case c3 => unfold maxLen; omega
            case c4 => omega
            case c5 => simp; omega
            intro v2 w2 hown2 hg2 _ hbk2
            have hb2 := below_grown ((hb.alloc hs _).alloc (by simp; omega) _) ((HO1.out.alloc _).alloc _) hg2 (by simp; omega)
            have HO2 := Lib.hid (own_grew HAp.out ((HO2.out.alloc _).alloc _) hg2)
            have HAp := Lib.hid (apart_grew HAp.out ((HO2w.out)) (by first | omega | (simp; done) | (simp; omega)) hbk2)
            obtain ⟨g2, cap2, hv2⟩ := Joins.ownsRow_form hown2 (by omega)
            subst hv2
            have HO1 := Lib.hid (own_app5 (bs := L) (x := ⟨5, ⟨xa, xb, xc, xp⟩⟩) hown2 rfl)
            have b0 : w2.cell? ⟨wr.heap.size, 0, none⟩ = some (.int .i64 5) := (grew_cell hg2 (by simp; omega) HNe.out).trans (by go_simp)
            have b1 : w2.cell? ⟨wr.heap.size, 1, none⟩ = some (.int .i64 xa) := (grew_cell hg2 (by simp; omega) HNe.out).trans (by go_simp)
            have b2 : w2.cell? ⟨wr.heap.size, 2, none⟩ = some (.int .i64 xb) := (grew_cell hg2 (by simp; omega) HNe.out).trans (by go_simp)
            have b3 : w2.cell? ⟨wr.heap.size, 3, none⟩ = some (.int .i64 xc) := (grew_cell hg2 (by simp; omega) HNe.out).trans (by go_simp)
            have b4 : w2.cell? ⟨wr.heap.size, 4, none⟩ = some (.string xp) := (grew_cell hg2 (by simp; omega) HNe.out).trans (by go_simp)
            have hs2 := hb2.size
            simp at hs2
            clear hg2 hown2 hbk2 d0 d1 d2 d3 d4
            go_wp2_with fail
            go_roundw
            case rel =>
              exact ⟨m + 1, hlm, by go_num, ⟨by rw [HFl.out]; exact HO1.out, by rw [HFh.out]; exact HO2.out, HAp.out, ⟨_, _, by rw [HFl.out, List.length_append]; rfl⟩, ⟨_, _, by rw [HFh.out]⟩⟩, hb2⟩
            case measure => simp [intOf]; omega
        · have q4 : decide (m < bs.length) = false := by simp; omega
          have HF : Hid (pre ++ bs.take m = ((rs.take (k + 1)).map Prod.snd).flatten) := by
            show _ = _
            rw [HTk.out, List.take_of_length_le (by omega)]
          clear hlm
          go_wp2_with fail
          go_roundw
          case rel => exact ⟨k + 1, hlt, by go_num, by rw [← HF.out]; exact HTRi.out, hb⟩
          case measure => simp [intOf]; omega
    · have q5 : decide (k < rs.length) = false := by simp; omega
      have hF : rs.take k = rs := List.take_of_length_le (by omega)
      rw [hF, HAll.out] at HTR
      obtain ⟨ho1, ho2, hap, ⟨la, lc, rfl⟩, ⟨ha, hc, rfl⟩⟩ := HTR.out
      have HL := Lib.hid (Bnds.of_owns ho1)
      have HH := Lib.hid (Bnds.of_owns ho2)
      have hlz := low_sz all HZs.out
      obtain ⟨okL, hkL⟩ : ∃ b, decide (0 < (lows all).length) = b := ⟨_, rfl⟩
      obtain ⟨okH, hkH⟩ : ∃ b, decide (0 < (highs all).length) = b := ⟨_, rfl⟩
      have HKL := Lib.hid (ok_nil hkL)
      have HKH := Lib.hid (ok_nil hkH)
      have hzA := best_sz 1 5 (lows all) hlz.1
      have hzB := best_sz (-1) 1 (highs all) hlz.2
      have C1 := fun w hv => refBest_any 1 5 (.inl rfl) (.slice la (lows all).length lc) (lows all) w hv ⟨_, _, rfl⟩ hlz.1
      have C2 := fun w hv => refBest_any (-1) 1 (.inr rfl) (.slice ha (highs all).length hc) (highs all) w hv ⟨_, _, rfl⟩ hlz.2
      obtain ⟨A, hA⟩ : ∃ A, toLo (bestR 1 5 (lows all)) = A := ⟨_, rfl⟩
      obtain ⟨B, hB⟩ : ∃ B, toHi (bestR (-1) 1 (highs all)) = B := ⟨_, rfl⟩
      have HN2 := Lib.hid (norm_alt all A B hA hB)
      rw [← HN.out] at HN2
      have hAv := toLo_v (bestR 1 5 (lows all))
      have hBv := toHi_v (bestR (-1) 1 (highs all))
      rw [hkL] at C1
      rw [hkH] at C2
      obtain ⟨A0, hA0⟩ : ∃ A, bestR 1 5 (lows all) = A := ⟨_, rfl⟩
      obtain ⟨B0, hB0⟩ : ∃ A, bestR (-1) 1 (highs all) = A := ⟨_, rfl⟩
      rw [hA0] at C1 hA hAv hzA
      rw [hB0] at C2 hB hBv hzB
      rw [hA] at hAv
      rw [hB] at hBv
      have hsA : A.v.p.size ≤ 300 := by rw [hAv]; exact hzA
      have hsB : B.v.p.size ≤ 300 := by rw [hBv]; exact hzB
      have HA := Lib.hid hA
      have HB' := Lib.hid hB
      have HC1 := Lib.hid C1
      have HC2 := Lib.hid C2
      obtain ⟨ao, ⟨aa, ab, ac, ap⟩⟩ := A0
      obtain ⟨bo, ⟨ba, bb, bc, bp⟩⟩ := B0
      simp only at HC1 HC2
      clear hlt hF HTR ho1 ho2 hap hlz hkL hkH C1 C2 hAv hBv hzA hzB hA hB hA0 hB0
      go_wp2_with fail
      refine (HC1.out _ HL.out).mono ?_
      rintro e w3 ⟨rfl, hb3⟩
      have hb03 := box_then hb hb3
      have hW3 := below_first hb03
      go_wp2_with fail
      refine (HC2.out _ ((HH.out.below hb3 (Nat.le_refl _)).below ((Below.refl _ _).alloc (Nat.le_refl _) _) (Nat.le_refl _))).mono ?_
      rintro e w4 ⟨rfl, hb4⟩
      have hx4 := box_of hb4
      have hb04 := box_then hb03 (below_first hx4)
      have hW4 := below_first hb04
      have x0 := box_cells hx4 0
      have x1 := box_cells hx4 1
      have x2 := box_cells hx4 2
      have x3 := box_cells hx4 3
      have x4 := box_cells hx4 4
      have f0 := box_free hx4 0
      have f1 := box_free hx4 1
      have f2 := box_free hx4 2
      have f3 := box_free hx4 3
      have f4 := box_free hx4 4
      simp at x0 x1 x2 x3 x4
      have hl34 := cell_lt x0
      go_upto_if 73 with fail
      have hA1 : BoxAt (w4.alloc (.cells #[.int .i64 bo, .int .i64 ba, .int .i64 bb, .int .i64 bc, .string bp] 54)) w3.heap.size ⟨ao, ⟨aa, ab, ac, ap⟩⟩ := by
        refine ⟨?_, ?_, ?_, ?_, ?_⟩ <;> go_simp
      have hF1 : BoxF (w4.alloc (.cells #[.int .i64 bo, .int .i64 ba, .int .i64 bb, .int .i64 bc, .string bp] 54)) w3.heap.size := by
        refine ⟨?_, ?_, ?_, ?_, ?_⟩ <;> go_simp
      have hA2 : BoxAt (w4.alloc (.cells #[.int .i64 bo, .int .i64 ba, .int .i64 bb, .int .i64 bc, .string bp] 54)) w4.heap.size ⟨bo, ⟨ba, bb, bc, bp⟩⟩ := by
        refine ⟨?_, ?_, ?_, ?_, ?_⟩ <;> go_simp
      have hF2 : BoxF (w4.alloc (.cells #[.int .i64 bo, .int .i64 ba, .int .i64 bb, .int .i64 bc, .string bp] 54)) w4.heap.size := by
        refine ⟨?_, ?_, ?_, ?_, ?_⟩ <;> go_simp
      have hb05 := hb04.alloc (by have := hb04.size; simp at this; omega) (.cells #[.int .i64 bo, .int .i64 ba, .int .i64 bb, .int .i64 bc, .string bp] 54)
      have hA3 : BoxAt (w4.alloc (.cells #[.int .i64 bo, .int .i64 ba, .int .i64 bb, .int .i64 bc, .string bp] 54)) w.heap.size Bnd.nothing := by
        refine ⟨?_, ?_, ?_, ?_, ?_⟩
        · exact box_cells hb05 0
        · exact box_cells hb05 1
        · exact box_cells hb05 2
        · exact box_cells hb05 3
        · exact box_cells hb05 4
      have hW5 := below_first hb05
      have hl0 : w.heap.size < w3.heap.size := by have := hb03.size; simp at this; omega
      obtain ⟨Ba, hBa⟩ : ∃ B, w3.heap.size = B := ⟨_, rfl⟩
      obtain ⟨Bb, hBb⟩ : ∃ B, w4.heap.size = B := ⟨_, rfl⟩
      generalize w4.alloc (.cells #[.int .i64 bo, .int .i64 ba, .int .i64 bb, .int .i64 bc, .string bp] 54) = wx at hA1 hF1 hA2 hF2 hA3 hW5 ⊢
      rw [hBa] at hA1 hF1 hl0 hl34 ⊢
      rw [hBb] at hA2 hF2 hl34 ⊢
      clear hb3 hb03 hW3 hb4 hx4 hb04 hW4 x0 x1 x2 x3 x4 f0 f1 f2 f3 f4 hb05 hBa hBb hb hW HL HH HC1 HC2
      have HA1 := Lib.hid hA1
      have HF1 := Lib.hid hF1
      have HA2 := Lib.hid hA2
      have HF2 := Lib.hid hF2
      have HA3 := Lib.hid hA3
      obtain ⟨x0, x1, x2, x3, x4⟩ := hA1
      obtain ⟨f0, f1, f2, f3, f4⟩ := hF1
      obtain ⟨y0, y1, y2, y3, y4⟩ := hA2
      obtain ⟨g0, g1, g2, g3, g4⟩ := hF2
      simp only at x0 x1 x2 x3 x4 y0 y1 y2 y3 y4
      have nab : Ba ≠ Bb := by omega
      have n0a : w.heap.size ≠ Ba := by omega
      have n0b : w.heap.size ≠ Bb := by omega
      go_cut [74] (fun _ wz => RR w.heap.size Ba Bb A ⟨bo, ⟨ba, bb, bc, bp⟩⟩ w wz)
      case first =>
        by_cases h3 : ao = 3
        · subst h3
          have HAe : Hid (A = ⟨4, ⟨aa, ab, ac, ap⟩⟩) := HA.out.symm
          go_wp2_with fail
          go_meet
          case rel => exact ⟨HA3.out.far n0a.symm _ _, by rw [HAe.out]; exact (HA1.out.set0 HF1.out 4).1, (HA1.out.set0 HF1.out 4).2, HA2.out.far nab _ _, HF2.out.far _ _, hW5.setCell (by show w.heap.size ≤ Ba; omega) _⟩
        · have HAe : Hid (A = ⟨ao, ⟨aa, ab, ac, ap⟩⟩) := by show _ = _; rw [← HA.out]; unfold toLo; rw [if_neg h3]
          have q3 : (ao == 3) = false := by simpa using h3
          clear h3
          go_wp2_with fail
          go_meet
          case rel => exact ⟨HA3.out, by rw [HAe.out]; exact HA1.out, HF1.out, HA2.out, HF2.out, hW5⟩
      case rest =>
        clear HA1 HF1 HA2 HF2 HA3 x0 x1 x2 x3 x4 f0 f1 f2 f3 f4 y0 y1 y2 y3 y4 g0 g1 g2 g3 g4 hW5
        obtain ⟨hA3, hA1, hF1, hA2, hF2, hW5⟩ := hcut
        have HA1 := Lib.hid hA1
        have HF1 := Lib.hid hF1
        have HA2 := Lib.hid hA2
        have HF2 := Lib.hid hF2
        have HA3 := Lib.hid hA3
        obtain ⟨f0, f1, f2, f3, f4⟩ := hF1
        obtain ⟨y0, y1, y2, y3, y4⟩ := hA2
        obtain ⟨g0, g1, g2, g3, g4⟩ := hF2
        simp only at y0 y1 y2 y3 y4
        go_upto_if 77 with fail
        go_cut [78] (fun _ wz => RR w.heap.size Ba Bb A B w wz)
        case first =>
          by_cases h3 : bo = 3
          · subst h3
            have HBe : Hid (B = ⟨2, ⟨ba, bb, bc, bp⟩⟩) := HB'.out.symm
            go_wp2_with fail
            go_meet
            case rel => exact ⟨HA3.out.far n0b.symm _ _, HA1.out.far nab.symm _ _, HF1.out.far _ _, by rw [HBe.out]; exact (HA2.out.set0 HF2.out 2).1, (HA2.out.set0 HF2.out 2).2, hW5.setCell (by show w.heap.size ≤ Bb; omega) _⟩
          · have HBe : Hid (B = ⟨bo, ⟨ba, bb, bc, bp⟩⟩) := by show _ = _; rw [← HB'.out]; unfold toHi; rw [if_neg h3]
            have q3 : (bo == 3) = false := by simpa using h3
            clear h3
            go_wp2_with fail
            go_meet
            case rel => exact ⟨HA3.out, HA1.out, HF1.out, by rw [HBe.out]; exact HA2.out, HF2.out, hW5⟩
        case rest =>
          clear HA1 HF1 HA2 HF2 HA3 f0 f1 f2 f3 f4 y0 y1 y2 y3 y4 g0 g1 g2 g3 g4 hW5 hA1 hA3 HA HB'
          obtain ⟨hA3, hA1, _, hA2, _, hW5⟩ := hcut
          obtain ⟨Ao, Av⟩ := A
          obtain ⟨Bo, Bv⟩ := B
          have HA1 := Lib.hid hA1
          have HA2 := Lib.hid hA2
          have HA3 := Lib.hid hA3
          obtain ⟨x0, x1, x2, x3, x4⟩ := hA1
          obtain ⟨y0, y1, y2, y3, y4⟩ := hA2
          obtain ⟨z0, z1, z2, z3, z4⟩ := hA3
          simp only [Bnd.nothing] at x0 x1 x2 x3 x4 y0 y1 y2 y3 y4 z0 z1 z2 z3 z4
          simp only at hsA hsB HN2
          cases okL
          · have hL0 := HKL.out.2 rfl
            cases okH
            · have hH0 := HKH.out.2 rfl
              have HF : Hid (N = []) := by show _ = _; rw [HN2.out, if_pos hL0, if_pos hH0]
              clear hL0 hH0
              go_wp2_with fail
              go_ret
              exact ⟨_, rfl, by rw [HF.out]; exact bnds_nil _, ⟨_, _, by rw [HF.out]; rfl⟩, hW5⟩
            · have hH0 : ¬ highs all = [] := fun h => by have := HKH.out.1 h; cases this
              have HF : Hid (N = [⟨Bo, Bv⟩]) := by show _ = _; rw [HN2.out, if_pos hL0, if_neg hH0]
              clear hL0 hH0
              go_wp2_with fail
              go_ret
              exact near_fin w _ _ _ HF.out hW5 _ _ _ _ rfl rfl (by simp) (by simp [maxLen])
          · have hL0 : ¬ lows all = [] := fun h => by have := HKL.out.1 h; cases this
            cases okH
            · have hH0 := HKH.out.2 rfl
              have HF : Hid (N = [⟨Ao, Av⟩]) := by show _ = _; rw [HN2.out, if_neg hL0, if_pos hH0]
              clear hL0 hH0
              go_wp2_with fail
              go_ret
              exact near_fin w _ _ _ HF.out hW5 _ _ _ _ rfl rfl (by simp) (by simp [maxLen])
            · have hH0 : ¬ highs all = [] := fun h => by have := HKH.out.1 h; cases this
              obtain ⟨c, hc'⟩ : ∃ c, V4.cmp Av Bv = c := ⟨_, rfl⟩
              have HN3 : Hid (N = if c = 0 ∧ Ao = 4 ∧ Bo = 2 then [⟨3, Av⟩] else if 0 ≤ c then [Bnd.nothing] else [⟨Ao, Av⟩, ⟨Bo, Bv⟩]) := by
                show _ = _; rw [HN2.out, if_neg hL0, if_neg hH0]; simp only [hc']
              have HCm := Lib.hid (fun w => refCmpQ_as Av Bv c hc' w hsA hsB)
              clear hL0 hH0 hc'
              have hlx := cell_lt x0
              have hly := cell_lt y0
              have hlz := cell_lt z0
              go_wp2_with fail
              refine (HCm.out _).mono ?_
              rintro e w6 ⟨rfl, hb6⟩
              clear x0 x1 x2 x3 x4 y0 y1 y2 y3 y4 z0 z1 z2 z3 z4
              obtain ⟨x0, x1, x2, x3, x4⟩ := HA1.out.below hb6 hlx
              obtain ⟨y0, y1, y2, y3, y4⟩ := HA2.out.below hb6 hly
              obtain ⟨z0, z1, z2, z3, z4⟩ := HA3.out.below hb6 hlz
              simp only [Bnd.nothing] at x0 x1 x2 x3 x4 y0 y1 y2 y3 y4 z0 z1 z2 z3 z4
              have hW6 := below_then hW5 hb6
              clear hb6 hlx hly hlz
              by_cases hneg : c < 0
              · have q1 : decide (c < 0) = true := decide_eq_true hneg
                have HF : Hid (N = [⟨Ao, Av⟩, ⟨Bo, Bv⟩]) := by show _ = _; rw [HN3.out, if_neg (fun h => by omega), if_neg (by omega)]
                clear hneg
                go_wp2_with fail
                go_ret
                exact near_fin w _ _ _ HF.out hW6 _ _ _ _ rfl rfl (by simp) (by simp [maxLen])
              have q1 : decide (c < 0) = false := decide_eq_false hneg
              by_cases hz : c = 0
              case neg =>
                have qz : (c == 0) = false := by simpa using hz
                have HF : Hid (N = [Bnd.nothing]) := by show _ = _; rw [HN3.out, if_neg (fun h => hz h.1), if_pos (by omega)]
                clear hneg hz
                go_wp2_with fail
                go_ret
                exact near_fin w _ _ _ HF.out hW6 _ _ _ _ rfl rfl (by simp) (by simp [maxLen])
              have qz : (c == 0) = true := by simpa using hz
              by_cases h4 : Ao = 4
              case neg =>
                have q4 : (Ao == 4) = false := by simpa using h4
                have HF : Hid (N = [Bnd.nothing]) := by show _ = _; rw [HN3.out, if_neg (fun h => h4 h.2.1), if_pos (by omega)]
                clear hneg hz h4
                go_wp2_with fail
                go_ret
                exact near_fin w _ _ _ HF.out hW6 _ _ _ _ rfl rfl (by simp) (by simp [maxLen])
              have q4 : (Ao == 4) = true := by simpa using h4
              by_cases h2 : Bo = 2
              case neg =>
                have q2 : (Bo == 2) = false := by simpa using h2
                have HF : Hid (N = [Bnd.nothing]) := by show _ = _; rw [HN3.out, if_neg (fun h => h2 h.2.2), if_pos (by omega)]
                clear hneg hz h4 h2
                go_wp2_with fail
                go_ret
                exact near_fin w _ _ _ HF.out hW6 _ _ _ _ rfl rfl (by simp) (by simp [maxLen])
              have q2 : (Bo == 2) = true := by simpa using h2
              have HF : Hid (N = [⟨3, Av⟩]) := by show _ = _; rw [HN3.out, if_pos ⟨hz, h4, h2⟩]
              clear hneg hz h4 h2
              go_wp2_with fail
              go_ret
              exact near_fin w _ _ _ HF.out hW6 _ _ _ _ rfl rfl (by simp) (by simp [maxLen])
end Go.Proofs.YthojbknakmjndaaGreatDoor
