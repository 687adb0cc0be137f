/- The reference of layer 5: best: a walk. -/
import Derived.Test.YthojbknakmjndaaGreatDoorRanRef3
import Derived.Test.YthojbknakmjndaaGreatDoorRanMath4
import Derived.Test.YthojbknakmjndaaGreatDoorRanNorm
namespace Go
open Go.RowKit
def tri (x : Int) : Prop := x = -1 ∨ x = 0 ∨ x = 1
theorem tri_ord (a b : Int) : tri (ord a b) := by unfold tri ord; split; · simp
                                                  split <;> simp
theorem tri_txt (a b : List UInt8) : tri (txt a b) := by unfold tri txt; split; · simp
                                                         split <;> simp
theorem tri_or2 {a b : Int} (ha : tri a) (hb : tri b) : tri (or2 a b) := by unfold or2; split <;> assumption
theorem tri_parts (a b : List UInt8) : tri (partsCmp a b) := by
  unfold partsCmp
  split
  · split
    · exact tri_txt _ _
    · exact .inl rfl
  · split
    · exact .inr (.inr rfl)
    · exact tri_txt _ _
theorem tri_lcmp : ∀ a b : List (List UInt8), tri (lcmp a b)
  | [], [] => .inr (.inl rfl)
  | [], _ :: _ => .inl rfl
  | _ :: _, [] => .inr (.inr rfl)
  | x :: xs, y :: ys => tri_or2 (tri_parts x y) (tri_lcmp xs ys)
theorem tri_cmp (x y : V4) : tri (V4.cmp x y) := by
  unfold V4.cmp cmpV cmp3
  refine tri_or2 (tri_or2 (tri_ord _ _) (tri_or2 (tri_ord _ _) (tri_ord _ _))) ?_
  unfold cmpPre
  split
  · split
    · exact .inr (.inl rfl)
    · exact .inr (.inr rfl)
  · split
    · exact .inl rfl
    · exact tri_lcmp _ _
def BoxF (w : World) (b : Nat) : Prop := w.frozen? ⟨b, 0, none⟩ = false ∧ w.frozen? ⟨b, 1, none⟩ = false ∧ w.frozen? ⟨b, 2, none⟩ = false ∧ w.frozen? ⟨b, 3, none⟩ = false ∧ w.frozen? ⟨b, 4, none⟩ = false
theorem BoxF.below {w w' : World} {b : Nat} (h : BoxF w b) {B : Nat} (hb : Below B w w') (hB : b < B) : BoxF w' b := by
  unfold BoxF at h ⊢
  have hf : ∀ j, w'.frozen? ⟨b, j, none⟩ = w.frozen? ⟨b, j, none⟩ := fun j => hb.frozen (p := ⟨b, j, none⟩) hB
  simp only [hf]
  exact h
theorem BoxAt.set {w : World} {b : Nat} {x : Bnd} (h : BoxAt w b x) (hf : BoxF w b) (z : Bnd) : BoxAt (((((w.setCell ⟨b, 0, none⟩ (.int .i64 z.op)).setCell ⟨b, 1, none⟩ (.int .i64 z.v.a)).setCell ⟨b, 2, none⟩ (.int .i64 z.v.b)).setCell ⟨b, 3, none⟩ (.int .i64 z.v.c)).setCell ⟨b, 4, none⟩ (.string z.v.p)) b z ∧
    BoxF (((((w.setCell ⟨b, 0, none⟩ (.int .i64 z.op)).setCell ⟨b, 1, none⟩ (.int .i64 z.v.a)).setCell ⟨b, 2, none⟩ (.int .i64 z.v.b)).setCell ⟨b, 3, none⟩ (.int .i64 z.v.c)).setCell ⟨b, 4, none⟩ (.string z.v.p)) b := by
  obtain ⟨h0, h1, h2, h3, h4⟩ := h
  obtain ⟨f0, f1, f2, f3, f4⟩ := hf
  refine ⟨⟨?_, ?_, ?_, ?_, ?_⟩, ?_, ?_, ?_, ?_, ?_⟩
  all_goals go_simp
end Go
namespace Go.Proofs.YthojbknakmjndaaGreatDoor
open Go.RowKit
def BsRel (way strict : Int) (bs : List Bnd) (B : Nat) (wz : World) (i : Value) (wr : World) : Prop :=
  ∃ k : Nat, 1 ≤ k ∧ k ≤ bs.length ∧ i = .int .i64 (k : Int) ∧ BoxAt wr (B + 1) (bestR way strict (bs.take k)) ∧ BoxF wr (B + 1) ∧ Below (B + 1) wz wr
theorem best_mem (way strict : Int) (bs : List Bnd) (h : bs ≠ []) : bestR way strict bs ∈ bs := by
  have key : ∀ n (bs : List Bnd), bs.length = n + 1 → bestR way strict bs ∈ bs := by
    intro n
    induction n with
    | zero =>
      intro bs h
      obtain ⟨x, rfl⟩ := List.length_eq_one_iff.1 h
      exact List.mem_singleton.2 rfl
    | succ n ih =>
      intro bs h
      have hne : bs ≠ [] := by intro e; rw [e] at h; cases h
      obtain ⟨us, x, rfl⟩ : ∃ us x, bs = us ++ [x] := ⟨bs.dropLast, bs.getLast hne, (List.dropLast_concat_getLast hne).symm⟩
      have hu : us.length = n + 1 := by simp at h; omega
      have hune : us ≠ [] := by intro e; rw [e] at hu; cases hu
      rw [bestR_snoc _ _ _ _ hune]
      split
      · simp
      · exact List.mem_append_left _ (ih us hu)
  cases bs with
  | nil => exact absurd rfl h
  | cons b bs => exact key bs.length _ (by simp)
theorem keepX8 {P : Program} {f : FuncId} {args : Array Value} {v : Value} (w0 w : World) (b c o0 o1 o2 o3 p0 p1 p2 p3 : Nat) (x0 x1 x2 x3 y0 y1 y2 y3 : Value)
    (h : w.cell? ⟨b, o0, none⟩ = some x0 ∧ w.cell? ⟨b, o1, none⟩ = some x1 ∧ w.cell? ⟨b, o2, none⟩ = some x2 ∧ w.cell? ⟨b, o3, none⟩ = some x3 ∧ w.cell? ⟨c, p0, none⟩ = some y0 ∧ w.cell? ⟨c, p1, none⟩ = some y1 ∧ w.cell? ⟨c, p2, none⟩ = some y2 ∧ w.cell? ⟨c, p3, none⟩ = some y3 ∧ Below w0.heap.size w0 w)
    (hc : Calls P f args w fun e w' => e = .returned v ∧ Below w.heap.size w w') :
    Calls P f args w fun e w' => e = .returned v ∧ (w'.cell? ⟨b, o0, none⟩ = some x0 ∧ w'.cell? ⟨b, o1, none⟩ = some x1 ∧ w'.cell? ⟨b, o2, none⟩ = some x2 ∧ w'.cell? ⟨b, o3, none⟩ = some x3 ∧ w'.cell? ⟨c, p0, none⟩ = some y0 ∧ w'.cell? ⟨c, p1, none⟩ = some y1 ∧ w'.cell? ⟨c, p2, none⟩ = some y2 ∧ w'.cell? ⟨c, p3, none⟩ = some y3 ∧ Below w0.heap.size w0 w') := by
  obtain ⟨h0, h1, h2, h3, k0, k1, k2, k3, hz⟩ := h
  exact hc.mono fun _ _ ⟨he, hb⟩ => ⟨he, (hb.cell (p := ⟨b, o0, none⟩) (cell_lt h0)).trans h0, (hb.cell (p := ⟨b, o1, none⟩) (cell_lt h1)).trans h1, (hb.cell (p := ⟨b, o2, none⟩) (cell_lt h2)).trans h2, (hb.cell (p := ⟨b, o3, none⟩) (cell_lt h3)).trans h3, (hb.cell (p := ⟨c, p0, none⟩) (cell_lt k0)).trans k0, (hb.cell (p := ⟨c, p1, none⟩) (cell_lt k1)).trans k1, (hb.cell (p := ⟨c, p2, none⟩) (cell_lt k2)).trans k2, (hb.cell (p := ⟨c, p3, none⟩) (cell_lt k3)).trans k3, below_then hz hb⟩
set_option maxRecDepth 100000 in
set_option maxHeartbeats 8000000 in
theorem refBest_any (way strict : Int) (hway : way = 1 ∨ way = -1) (v : Value) (bs : List Bnd) (w : World) (hv : Bnds w v bs) (hlen : ∃ a cap, v = .slice a bs.length cap) (hsz : ∀ x ∈ bs, x.v.p.size ≤ 300) :
    Calls Tryz.prog 41 #[v, .int .i64 way, .int .i64 strict] w fun e w' => e = .returned (.tuple #[.agg #[.int .i64 (bestR way strict bs).op, .int .i64 (bestR way strict bs).v.a, .int .i64 (bestR way strict bs).v.b, .int .i64 (bestR way strict bs).v.c, .string (bestR way strict bs).v.p], .bool (decide (0 < bs.length))]) ∧ Below w.heap.size w w' := by
  have HSz := Lib.hid hsz
  have hml := hv.cases.1
  unfold maxLen at hml
  obtain ⟨a0, cap0, rfl⟩ := hlen
  clear hsz
  rcases hv.cases.2 with ⟨a, cap, hva, he⟩ | ⟨bx, ox, cap, hva, hn0, hbx, hc⟩
  · have h0 : bs.length = 0 := by rw [he]; rfl
    rw [h0]
    have HF : Hid (bestR way strict bs = Bnd.zero) := by show _ = _; rw [he]; rfl
    clear he h0 hv hva hml
    go_enter Tryz.func41, Tryz.ntmps41
    go_wp2_with fail
    exact bodyPost_ret (v := .tuple #[.agg #[.int .i64 0, .int .i64 0, .int .i64 0, .int .i64 0, .string ⟨#[]⟩], .bool false]) (by simp [results, Tryz.results41, go_sem]) rfl ⟨by rw [HF.out]; rfl, (Below.refl _ _).alloc (Nat.le_refl _) _⟩
  have ha0 : a0 = some ⟨bx, ox, none⟩ := by injection hva
  have hcap : cap0 = cap := by injection hva
  subst ha0 hcap
  have HC := Lib.hid hc
  have q0 : ((bs.length : Int) == 0) = false := beq_eq_false_iff_ne.2 (by omega)
  have q0' : decide (bs.length = 0) = false := decide_eq_false (by omega)
  have k0 : (0 : Int) < (bs.length : Int) := by omega
  have HN0 := Lib.hid hn0
  obtain ⟨x0, ht1, g0, g1, g2, g3, g4⟩ : ∃ x0 : Bnd, bs.take 1 = [x0] ∧ w.cell? ⟨bx, ox, none⟩ = some (.int .i64 x0.op) ∧ w.cell? ⟨bx, ox + 1, none⟩ = some (.int .i64 x0.v.a) ∧ w.cell? ⟨bx, ox + 2, none⟩ = some (.int .i64 x0.v.b) ∧ w.cell? ⟨bx, ox + 3, none⟩ = some (.int .i64 x0.v.c) ∧ w.cell? ⟨bx, ox + 4, none⟩ = some (.string x0.v.p) := by
    have h := hc 0 hn0
    simp only [Nat.zero_mul, Nat.add_zero] at h
    exact ⟨_, by cases bs with
      | nil => cases hn0
      | cons b bs => rfl, h⟩
  have HT1 := Lib.hid ht1
  clear hc hv hva ht1
  go_enter Tryz.func41, Tryz.ntmps41
  go_wp2_with fail
  go_loopw [9, 10] (fun i _ wr => BsRel way strict bs w.heap.size (w.alloc (.cells #[.int .i64 0, .int .i64 0, .int .i64 0, .int .i64 0, .string ⟨#[]⟩] 54)) i wr) (fun i _ _ => bs.length - (intOf i).toNat)
  case atStart =>
    refine ⟨1, Nat.le_refl _, by omega, rfl, ?_, ?_, ?_⟩
    · rw [HT1.out]
      show BoxAt _ _ x0
      refine ⟨?_, ?_, ?_, ?_, ?_⟩ <;> go_simp
    · refine ⟨?_, ?_, ?_, ?_, ?_⟩ <;> go_simp
    · exact (Below.refl _ _).alloc (by simp) _
  case round =>
    obtain ⟨k, hk1, hk, rfl, hbo, hbf, hb⟩ := hrel
    have HBo := Lib.hid hbo
    have HBf := Lib.hid hbf
    have hW := below_first hb
    have z0 := box_cells hb 0
    have z1 := box_cells hb 1
    have z2 := box_cells hb 2
    have z3 := box_cells hb 3
    have z4 := box_cells hb 4
    have y0 := box_free hb 0
    have y1 := box_free hb 1
    have y2 := box_free hb 2
    have y3 := box_free hb 3
    have y4 := box_free hb 4
    simp at z0 z1 z2 z3 z4
    by_cases hlt : k < bs.length
    · have i0 : (0 : Int) ≤ (k : Int) := by omega
      have i1 : (k : Int) < (bs.length : Int) := by omega
      obtain ⟨g0, g1, g2, g3, g4⟩ := HC.out k hlt
      have c0 := (hW.cell (p := ⟨bx, ox + k * 5, none⟩) hbx).trans g0
      have c1 := (hW.cell (p := ⟨bx, ox + k * 5 + 1, none⟩) hbx).trans g1
      have c2 := (hW.cell (p := ⟨bx, ox + k * 5 + 2, none⟩) hbx).trans g2
      have c3 := (hW.cell (p := ⟨bx, ox + k * 5 + 3, none⟩) hbx).trans g3
      have c4 := (hW.cell (p := ⟨bx, ox + k * 5 + 4, none⟩) hbx).trans g4
      have HTk := Lib.hid (List.take_succ_eq_append_getElem hlt)
      have hsy := HSz.out _ (List.getElem_mem hlt)
      have hne : bs.take k ≠ [] := by
        intro e
        have := congrArg List.length e
        rw [List.length_take, List.length_nil] at this
        omega
      have hsx := HSz.out _ (List.mem_of_mem_take (best_mem way strict (bs.take k) hne))
      obtain ⟨y, hy⟩ : ∃ y, bs[k] = y := ⟨_, rfl⟩
      rw [hy] at c0 c1 c2 c3 c4 HTk hsy
      have HSn := Lib.hid (bestR_snoc way strict (bs.take k) y hne)
      obtain ⟨x, hx⟩ : ∃ x, bestR way strict (bs.take k) = x := ⟨_, rfl⟩
      rw [hx] at HBo HSn hsx
      obtain ⟨x0, x1, x2, x3, x4⟩ := HBo.out
      obtain ⟨f0, f1, f2, f3, f4⟩ := HBf.out
      obtain ⟨xo, xv⟩ := x
      obtain ⟨yo, yv⟩ := y
      simp only at c0 c1 c2 c3 c4 x0 x1 x2 x3 x4 hsx hsy
      have hBl := cell_lt x0
      have htri := tri_cmp yv xv
      obtain ⟨c, hc⟩ : ∃ c, V4.cmp yv xv = c := ⟨_, rfl⟩
      rw [hc] at htri
      have HCm := Lib.hid (fun w => refCmpQ_as yv xv c hc w hsy hsx)
      have HBt : Hid (better way strict ⟨xo, xv⟩ ⟨yo, yv⟩ = (decide (0 < way * c) || (decide (way * c = 0) && decide (yo = strict) && decide (xo ≠ strict)))) := by
        show _ = _; unfold better; simp only [hc]
      clear g0 g1 g2 g3 g4 hy hx hc hne hbo hbf
      obtain ⟨d, hd⟩ : ∃ d, way * c = d := ⟨_, rfl⟩
      have hdt : d = -1 ∨ d = 0 ∨ d = 1 := by
        rcases htri with rfl | rfl | rfl <;> rcases hway with rfl | rfl <;> simp at hd <;> omega
      have hdw : wrap64 (way * c) = d := by rw [hd]; rcases hdt with rfl | rfl | rfl <;> decide +kernel
      rw [hd] at HBt
      rcases hdt with hd1 | hd1 | hd1
      · subst hd1
        have q1 : decide ((0 : Int) < -1) = false := by decide
        have HR : Hid (bestR way strict (bs.take k ++ [⟨yo, yv⟩]) = ⟨xo, xv⟩) := by show _ = _; rw [HSn.out, HBt.out]; rfl
        go_wp2_with fail
        have hd0 := (Below.refl wr.heap.size wr).drew
        go_region_held3 (fun w' => w'.cell? ⟨bx, ox + k * 5 + 1, none⟩ = some (.int .i64 yv.a) ∧ w'.cell? ⟨bx, ox + k * 5 + 2, none⟩ = some (.int .i64 yv.b) ∧ w'.cell? ⟨bx, ox + k * 5 + 3, none⟩ = some (.int .i64 yv.c) ∧ w'.cell? ⟨bx, ox + k * 5 + 4, none⟩ = some (.string yv.p) ∧ w'.cell? ⟨w.heap.size + 1, 1, none⟩ = some (.int .i64 xv.a) ∧ w'.cell? ⟨w.heap.size + 1, 2, none⟩ = some (.int .i64 xv.b) ∧ w'.cell? ⟨w.heap.size + 1, 3, none⟩ = some (.int .i64 xv.c) ∧ w'.cell? ⟨w.heap.size + 1, 4, none⟩ = some (.string xv.p) ∧ Below wr.heap.size wr w') (go_keep) ((go_at_call 42; refine (keepX8 wr _ _ _ _ _ _ _ _ _ _ _ _ _ _ _ _ _ _ _ (by assumption) (HCm.out _)).mono ?_; rintro e w5 ⟨rfl, hk5⟩))
        obtain ⟨_, _, _, _, _, _, _, _, hbb⟩ := hk5
        have hx5 := HBo.out.below hbb hBl
        have hf5 := HBf.out.below hbb hBl
        have hb6 := box_then hb hbb
        have hW6 := below_first hb6
        have c0 := (hbb.cell (p := ⟨bx, ox + k * 5, none⟩) (Nat.lt_of_lt_of_le hbx hW.size)).trans c0
        have c1 := (hbb.cell (p := ⟨bx, ox + k * 5 + 1, none⟩) (Nat.lt_of_lt_of_le hbx hW.size)).trans c1
        have c2 := (hbb.cell (p := ⟨bx, ox + k * 5 + 2, none⟩) (Nat.lt_of_lt_of_le hbx hW.size)).trans c2
        have c3 := (hbb.cell (p := ⟨bx, ox + k * 5 + 3, none⟩) (Nat.lt_of_lt_of_le hbx hW.size)).trans c3
        have c4 := (hbb.cell (p := ⟨bx, ox + k * 5 + 4, none⟩) (Nat.lt_of_lt_of_le hbx hW.size)).trans c4
        clear x0 x1 x2 x3 x4 f0 f1 f2 f3 f4 hbb hd0
        have HX5 := Lib.hid hx5
        have HF5 := Lib.hid hf5
        obtain ⟨x0, x1, x2, x3, x4⟩ := hx5
        obtain ⟨f0, f1, f2, f3, f4⟩ := hf5
        simp only at x0 x1 x2 x3 x4
        go_wp2_with fail
        go_roundw
        case rel =>
          exact ⟨k + 1, by omega, hlt, by go_num, by rw [HTk.out, HR.out]; exact HX5.out, HF5.out, hb6⟩
        case measure => simp [intOf]; omega
      · subst hd1
        by_cases hs : yo = strict
        · have q2 : (yo == strict) = true := by simpa using hs
          by_cases hs2 : xo = strict
          · have q3 : (xo != strict) = false := by simpa using hs2
            have HR : Hid (bestR way strict (bs.take k ++ [⟨yo, yv⟩]) = ⟨xo, xv⟩) := by show _ = _; rw [HSn.out, HBt.out]; rw [decide_eq_false (show ¬ xo ≠ strict from fun h => h hs2)]; simp
            clear hs hs2
            go_wp2_with fail
            have hd0 := (Below.refl wr.heap.size wr).drew
            go_region_held3 (fun w' => w'.cell? ⟨bx, ox + k * 5 + 1, none⟩ = some (.int .i64 yv.a) ∧ w'.cell? ⟨bx, ox + k * 5 + 2, none⟩ = some (.int .i64 yv.b) ∧ w'.cell? ⟨bx, ox + k * 5 + 3, none⟩ = some (.int .i64 yv.c) ∧ w'.cell? ⟨bx, ox + k * 5 + 4, none⟩ = some (.string yv.p) ∧ w'.cell? ⟨w.heap.size + 1, 1, none⟩ = some (.int .i64 xv.a) ∧ w'.cell? ⟨w.heap.size + 1, 2, none⟩ = some (.int .i64 xv.b) ∧ w'.cell? ⟨w.heap.size + 1, 3, none⟩ = some (.int .i64 xv.c) ∧ w'.cell? ⟨w.heap.size + 1, 4, none⟩ = some (.string xv.p) ∧ Below wr.heap.size wr w') (go_keep) ((go_at_call 42; refine (keepX8 wr _ _ _ _ _ _ _ _ _ _ _ _ _ _ _ _ _ _ _ (by assumption) (HCm.out _)).mono ?_; rintro e w5 ⟨rfl, hk5⟩))
            obtain ⟨_, _, _, _, _, _, _, _, hbb⟩ := hk5
            have hx5 := HBo.out.below hbb hBl
            have hf5 := HBf.out.below hbb hBl
            have hb6 := box_then hb hbb
            have hW6 := below_first hb6
            have c0 := (hbb.cell (p := ⟨bx, ox + k * 5, none⟩) (Nat.lt_of_lt_of_le hbx hW.size)).trans c0
            have c1 := (hbb.cell (p := ⟨bx, ox + k * 5 + 1, none⟩) (Nat.lt_of_lt_of_le hbx hW.size)).trans c1
            have c2 := (hbb.cell (p := ⟨bx, ox + k * 5 + 2, none⟩) (Nat.lt_of_lt_of_le hbx hW.size)).trans c2
            have c3 := (hbb.cell (p := ⟨bx, ox + k * 5 + 3, none⟩) (Nat.lt_of_lt_of_le hbx hW.size)).trans c3
            have c4 := (hbb.cell (p := ⟨bx, ox + k * 5 + 4, none⟩) (Nat.lt_of_lt_of_le hbx hW.size)).trans c4
            clear x0 x1 x2 x3 x4 f0 f1 f2 f3 f4 hbb hd0
            have HX5 := Lib.hid hx5
            have HF5 := Lib.hid hf5
            obtain ⟨x0, x1, x2, x3, x4⟩ := hx5
            obtain ⟨f0, f1, f2, f3, f4⟩ := hf5
            simp only at x0 x1 x2 x3 x4
            go_wp2_with fail
            go_roundw
            case rel =>
              exact ⟨k + 1, by omega, hlt, by go_num, by rw [HTk.out, HR.out]; exact HX5.out, HF5.out, hb6⟩
            case measure => simp [intOf]; omega
          · have q3 : (xo != strict) = true := by simpa using hs2
            have HR : Hid (bestR way strict (bs.take k ++ [⟨yo, yv⟩]) = ⟨yo, yv⟩) := by show _ = _; rw [HSn.out, HBt.out]; rw [decide_eq_true hs, decide_eq_true (show xo ≠ strict from hs2)]; rfl
            clear hs hs2
            go_wp2_with fail
            have hd0 := (Below.refl wr.heap.size wr).drew
            go_region_held3 (fun w' => w'.cell? ⟨bx, ox + k * 5 + 1, none⟩ = some (.int .i64 yv.a) ∧ w'.cell? ⟨bx, ox + k * 5 + 2, none⟩ = some (.int .i64 yv.b) ∧ w'.cell? ⟨bx, ox + k * 5 + 3, none⟩ = some (.int .i64 yv.c) ∧ w'.cell? ⟨bx, ox + k * 5 + 4, none⟩ = some (.string yv.p) ∧ w'.cell? ⟨w.heap.size + 1, 1, none⟩ = some (.int .i64 xv.a) ∧ w'.cell? ⟨w.heap.size + 1, 2, none⟩ = some (.int .i64 xv.b) ∧ w'.cell? ⟨w.heap.size + 1, 3, none⟩ = some (.int .i64 xv.c) ∧ w'.cell? ⟨w.heap.size + 1, 4, none⟩ = some (.string xv.p) ∧ Below wr.heap.size wr w') (go_keep) ((go_at_call 42; refine (keepX8 wr _ _ _ _ _ _ _ _ _ _ _ _ _ _ _ _ _ _ _ (by assumption) (HCm.out _)).mono ?_; rintro e w5 ⟨rfl, hk5⟩))
            obtain ⟨_, _, _, _, _, _, _, _, hbb⟩ := hk5
            have hx5 := HBo.out.below hbb hBl
            have hf5 := HBf.out.below hbb hBl
            have hb6 := box_then hb hbb
            have hW6 := below_first hb6
            have c0 := (hbb.cell (p := ⟨bx, ox + k * 5, none⟩) (Nat.lt_of_lt_of_le hbx hW.size)).trans c0
            have c1 := (hbb.cell (p := ⟨bx, ox + k * 5 + 1, none⟩) (Nat.lt_of_lt_of_le hbx hW.size)).trans c1
            have c2 := (hbb.cell (p := ⟨bx, ox + k * 5 + 2, none⟩) (Nat.lt_of_lt_of_le hbx hW.size)).trans c2
            have c3 := (hbb.cell (p := ⟨bx, ox + k * 5 + 3, none⟩) (Nat.lt_of_lt_of_le hbx hW.size)).trans c3
            have c4 := (hbb.cell (p := ⟨bx, ox + k * 5 + 4, none⟩) (Nat.lt_of_lt_of_le hbx hW.size)).trans c4
            clear x0 x1 x2 x3 x4 f0 f1 f2 f3 f4 hbb hd0
            have HX5 := Lib.hid hx5
            have HF5 := Lib.hid hf5
            obtain ⟨x0, x1, x2, x3, x4⟩ := hx5
            obtain ⟨f0, f1, f2, f3, f4⟩ := hf5
            simp only at x0 x1 x2 x3 x4
            go_wp2_with fail
            go_roundw
            case rel =>
              exact ⟨k + 1, by omega, hlt, by go_num, by rw [HTk.out, HR.out]; exact (HX5.out.set HF5.out ⟨yo, yv⟩).1, (HX5.out.set HF5.out ⟨yo, yv⟩).2, ((((hb6.setCell (Nat.le_refl _) _).setCell (Nat.le_refl _) _).setCell (Nat.le_refl _) _).setCell (Nat.le_refl _) _).setCell (Nat.le_refl _) _⟩
            case measure => simp [intOf]; omega
        · have q2 : (yo == strict) = false := by simpa using hs
          have HR : Hid (bestR way strict (bs.take k ++ [⟨yo, yv⟩]) = ⟨xo, xv⟩) := by show _ = _; rw [HSn.out, HBt.out]; rw [decide_eq_false hs]; simp
          clear hs
          go_wp2_with fail
          have hd0 := (Below.refl wr.heap.size wr).drew
          go_region_held3 (fun w' => w'.cell? ⟨bx, ox + k * 5 + 1, none⟩ = some (.int .i64 yv.a) ∧ w'.cell? ⟨bx, ox + k * 5 + 2, none⟩ = some (.int .i64 yv.b) ∧ w'.cell? ⟨bx, ox + k * 5 + 3, none⟩ = some (.int .i64 yv.c) ∧ w'.cell? ⟨bx, ox + k * 5 + 4, none⟩ = some (.string yv.p) ∧ w'.cell? ⟨w.heap.size + 1, 1, none⟩ = some (.int .i64 xv.a) ∧ w'.cell? ⟨w.heap.size + 1, 2, none⟩ = some (.int .i64 xv.b) ∧ w'.cell? ⟨w.heap.size + 1, 3, none⟩ = some (.int .i64 xv.c) ∧ w'.cell? ⟨w.heap.size + 1, 4, none⟩ = some (.string xv.p) ∧ Below wr.heap.size wr w') (go_keep) ((go_at_call 42; refine (keepX8 wr _ _ _ _ _ _ _ _ _ _ _ _ _ _ _ _ _ _ _ (by assumption) (HCm.out _)).mono ?_; rintro e w5 ⟨rfl, hk5⟩))
          obtain ⟨_, _, _, _, _, _, _, _, hbb⟩ := hk5
          have hx5 := HBo.out.below hbb hBl
          have hf5 := HBf.out.below hbb hBl
          have hb6 := box_then hb hbb
          have hW6 := below_first hb6
          have c0 := (hbb.cell (p := ⟨bx, ox + k * 5, none⟩) (Nat.lt_of_lt_of_le hbx hW.size)).trans c0
          have c1 := (hbb.cell (p := ⟨bx, ox + k * 5 + 1, none⟩) (Nat.lt_of_lt_of_le hbx hW.size)).trans c1
          have c2 := (hbb.cell (p := ⟨bx, ox + k * 5 + 2, none⟩) (Nat.lt_of_lt_of_le hbx hW.size)).trans c2
          have c3 := (hbb.cell (p := ⟨bx, ox + k * 5 + 3, none⟩) (Nat.lt_of_lt_of_le hbx hW.size)).trans c3
          have c4 := (hbb.cell (p := ⟨bx, ox + k * 5 + 4, none⟩) (Nat.lt_of_lt_of_le hbx hW.size)).trans c4
          clear x0 x1 x2 x3 x4 f0 f1 f2 f3 f4 hbb hd0
          have HX5 := Lib.hid hx5
          have HF5 := Lib.hid hf5
          obtain ⟨x0, x1, x2, x3, x4⟩ := hx5
          obtain ⟨f0, f1, f2, f3, f4⟩ := hf5
          simp only at x0 x1 x2 x3 x4
          go_wp2_with fail
          go_roundw
          case rel =>
            exact ⟨k + 1, by omega, hlt, by go_num, by rw [HTk.out, HR.out]; exact HX5.out, HF5.out, hb6⟩
          case measure => simp [intOf]; omega
      · subst hd1
        have HR : Hid (bestR way strict (bs.take k ++ [⟨yo, yv⟩]) = ⟨yo, yv⟩) := by show _ = _; rw [HSn.out, HBt.out]; rfl
        go_wp2_with fail
        have hd0 := (Below.refl wr.heap.size wr).drew
        go_region_held3 (fun w' => w'.cell? ⟨bx, ox + k * 5 + 1, none⟩ = some (.int .i64 yv.a) ∧ w'.cell? ⟨bx, ox + k * 5 + 2, none⟩ = some (.int .i64 yv.b) ∧ w'.cell? ⟨bx, ox + k * 5 + 3, none⟩ = some (.int .i64 yv.c) ∧ w'.cell? ⟨bx, ox + k * 5 + 4, none⟩ = some (.string yv.p) ∧ w'.cell? ⟨w.heap.size + 1, 1, none⟩ = some (.int .i64 xv.a) ∧ w'.cell? ⟨w.heap.size + 1, 2, none⟩ = some (.int .i64 xv.b) ∧ w'.cell? ⟨w.heap.size + 1, 3, none⟩ = some (.int .i64 xv.c) ∧ w'.cell? ⟨w.heap.size + 1, 4, none⟩ = some (.string xv.p) ∧ Below wr.heap.size wr w') (go_keep) ((go_at_call 42; refine (keepX8 wr _ _ _ _ _ _ _ _ _ _ _ _ _ _ _ _ _ _ _ (by assumption) (HCm.out _)).mono ?_; rintro e w5 ⟨rfl, hk5⟩))
        obtain ⟨_, _, _, _, _, _, _, _, hbb⟩ := hk5
        have hx5 := HBo.out.below hbb hBl
        have hf5 := HBf.out.below hbb hBl
        have hb6 := box_then hb hbb
        have hW6 := below_first hb6
        have c0 := (hbb.cell (p := ⟨bx, ox + k * 5, none⟩) (Nat.lt_of_lt_of_le hbx hW.size)).trans c0
        have c1 := (hbb.cell (p := ⟨bx, ox + k * 5 + 1, none⟩) (Nat.lt_of_lt_of_le hbx hW.size)).trans c1
        have c2 := (hbb.cell (p := ⟨bx, ox + k * 5 + 2, none⟩) (Nat.lt_of_lt_of_le hbx hW.size)).trans c2
        have c3 := (hbb.cell (p := ⟨bx, ox + k * 5 + 3, none⟩) (Nat.lt_of_lt_of_le hbx hW.size)).trans c3
        have c4 := (hbb.cell (p := ⟨bx, ox + k * 5 + 4, none⟩) (Nat.lt_of_lt_of_le hbx hW.size)).trans c4
        clear x0 x1 x2 x3 x4 f0 f1 f2 f3 f4 hbb hd0
        have HX5 := Lib.hid hx5
        have HF5 := Lib.hid hf5
        obtain ⟨x0, x1, x2, x3, x4⟩ := hx5
        obtain ⟨f0, f1, f2, f3, f4⟩ := hf5
        simp only at x0 x1 x2 x3 x4
        go_wp2_with fail
        go_roundw
        case rel =>
          exact ⟨k + 1, by omega, hlt, by go_num, by rw [HTk.out, HR.out]; exact (HX5.out.set HF5.out ⟨yo, yv⟩).1, (HX5.out.set HF5.out ⟨yo, yv⟩).2, ((((hb6.setCell (Nat.le_refl _) _).setCell (Nat.le_refl _) _).setCell (Nat.le_refl _) _).setCell (Nat.le_refl _) _).setCell (Nat.le_refl _) _⟩
        case measure => simp [intOf]; omega
    · have q5 : decide (k < bs.length) = false := by simp; omega
      have HF : Hid (bestR way strict (bs.take k) = bestR way strict bs) := by show _ = _; rw [List.take_of_length_le (by omega)]
      have HD : Hid (decide (0 < bs.length) = true) := decide_eq_true hn0
      obtain ⟨x, hx⟩ : ∃ x, bestR way strict (bs.take k) = x := ⟨_, rfl⟩
      rw [hx] at HBo HF
      obtain ⟨x0, x1, x2, x3, x4⟩ := HBo.out
      obtain ⟨xo, ⟨xa, xb, xc, xp⟩⟩ := x
      simp only at x0 x1 x2 x3 x4
      clear hlt hx hbo hbf
      go_wp2_with fail
      exact bodyPost_ret (v := .tuple #[.agg #[.int .i64 xo, .int .i64 xa, .int .i64 xb, .int .i64 xc, .string xp], .bool true]) (by simp [results, Tryz.results41, go_sem, z0, z1, z2, z3, z4]) rfl ⟨by rw [← HF.out, HD.out], (((((hW.setCell (Nat.le_refl _) _).setCell (Nat.le_refl _) _).setCell (Nat.le_refl _) _).setCell (Nat.le_refl _) _).setCell (Nat.le_refl _) _)⟩
end Go.Proofs.YthojbknakmjndaaGreatDoor
