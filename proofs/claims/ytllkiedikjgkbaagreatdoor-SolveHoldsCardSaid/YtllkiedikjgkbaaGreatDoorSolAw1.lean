/- Solve: what the laws' probe looks at: the walk. -/
import Derived.Test.YtllkiedikjgkbaaGreatDoorSol10
import Derived.Test.YtllkiedikjgkbaaGreatDoorSolAw0
namespace Go
open Go.RowKit
theorem alloc8 (w : World) (o0 o1 o2 o3 o4 o5 o6 o7 : Obj) :
    let W := (((((((w.alloc o0).alloc o1).alloc o2).alloc o3).alloc o4).alloc o5).alloc o6).alloc o7
    (W.heap[w.heap.size]? = some o0 ∧ W.heap[w.heap.size + 1 + 1]? = some o2 ∧ W.heap[w.heap.size + 1 + 1 + 1]? = some o3 ∧ W.heap[w.heap.size + 1 + 1 + 1 + 1]? = some o4 ∧ W.heap[w.heap.size + 1 + 1 + 1 + 1 + 1]? = some o5 ∧
      W.heap[w.heap.size + 1 + 1 + 1 + 1 + 1 + 1]? = some o6 ∧ W.heap[w.heap.size + 1 + 1 + 1 + 1 + 1 + 1 + 1]? = some o7) ∧ Below w.heap.size w W := by
  intro W
  have h0 := Below_heap_new w o0
  have h2 := Below_heap_new ((w.alloc o0).alloc o1) o2
  have h3 := Below_heap_new (((w.alloc o0).alloc o1).alloc o2) o3
  have h4 := Below_heap_new ((((w.alloc o0).alloc o1).alloc o2).alloc o3) o4
  have h5 := Below_heap_new (((((w.alloc o0).alloc o1).alloc o2).alloc o3).alloc o4) o5
  have h6 := Below_heap_new ((((((w.alloc o0).alloc o1).alloc o2).alloc o3).alloc o4).alloc o5) o6
  have h7 := Below_heap_new (((((((w.alloc o0).alloc o1).alloc o2).alloc o3).alloc o4).alloc o5).alloc o6) o7
  simp only [World.size_alloc] at h2 h3 h4 h5 h6 h7
  refine ⟨⟨new_alloc (new_alloc (new_alloc (new_alloc (new_alloc (new_alloc (new_alloc h0 _) _) _) _) _) _) _, new_alloc (new_alloc (new_alloc (new_alloc (new_alloc h2 _) _) _) _) _, new_alloc (new_alloc (new_alloc (new_alloc h3 _) _) _) _, new_alloc (new_alloc (new_alloc h4 _) _) _, new_alloc (new_alloc h5 _) _, new_alloc h6 _, h7⟩, ?_⟩
  exact (((((((((Below.refl _ _).alloc (by simp) _).alloc (by simp) _).alloc (by simp <;> omega) _).alloc (by simp <;> omega) _).alloc (by simp <;> omega) _).alloc (by simp <;> omega) _).alloc (by simp <;> omega) _).alloc (by simp <;> omega) _)
theorem row_blkY {w : World} {b : Nat} {T : TypeId} {cs : Array Value} {xs : List Value} {size n cap : Nat} (h : w.heap[b]? = some (.cells cs T)) (hcs : cs = xs.toArray) (hl : xs.length = n * size) (h0 : 0 < n) (hm : n ≤ maxLen) : Row w size (.slice (some ⟨b, 0, none⟩) n cap) n xs := by
  refine ⟨hl, hm, .inr ⟨b, 0, cap, rfl, h0, (Array.getElem?_eq_some_iff.1 h).1, fun j hj => ?_⟩⟩
  rw [blk_cells h, hcs, Nat.zero_add]; simp
/-- what the probe has laid -/
structure YAt (TB TN TO TP TV : TypeId) (B : Nat) (W : World) : Prop where
  b0 : W.heap[B]? = some (.cells #[.int .i64 1, .int .i64 0, .int .i64 0, .string ⟨#[]⟩] TV)
  b2 : W.heap[B + 2]? = some (.cells #[.int .i64 4, .int .i64 2, .int .i64 0, .int .i64 0, .string ⟨#[]⟩] TB)
  b3 : W.heap[B + 3]? = some (.cells #[.string yQ, .slice (some ⟨B + 2, 0, none⟩) 1 1] TN)
  b4 : W.heap[B + 4]? = some (.cells #[.int .i64 1, .int .i64 0, .int .i64 0, .string ⟨#[]⟩, .bool false, .slice none 0 0, .int .i64 1, .int .i64 1, .int .i64 0, .string ⟨#[]⟩, .bool false, .slice (some ⟨B + 3, 0, none⟩) 1 1] TO)
  b5 : W.heap[B + 5]? = some (.cells #[.int .i64 1, .int .i64 0, .int .i64 0, .string ⟨#[]⟩, .bool false, .slice none 0 0] TO)
  b6 : W.heap[B + 6]? = some (.cells #[.string yP, .slice (some ⟨B + 4, 0, none⟩) 2 2, .string yQ, .slice (some ⟨B + 5, 0, none⟩) 1 1] TP)
  b7 : W.heap[B + 7]? = some (.cells #[.string yP, .slice none 0 0] TN)
section
variable {TB TN TO TP TV : TypeId} {B : Nat} {W W' : World}
theorem YAt.on (h : YAt TB TN TO TP TV B W) (hb : Below W.heap.size W W') : YAt TB TN TO TP TV B W' := by
  have lt : ∀ {i : Nat} {o : Obj}, W.heap[i]? = some o → W'.heap[i]? = some o := fun {i o} hi => (hb.block i (Array.getElem?_eq_some_iff.1 hi).1).trans hi
  exact ⟨lt h.b0, lt h.b2, lt h.b3, lt h.b4, lt h.b5, lt h.b6, lt h.b7⟩
theorem bnds_nilY (W : World) : Bnds W (.slice none 0 0) [] := ⟨rfl, Nat.zero_le _, .inl ⟨_, _, rfl, rfl, fun _ => rfl⟩⟩
theorem YAt.need (h : YAt TB TN TO TP TV B W) : Wants W (.slice (some ⟨B + 3, 0, none⟩) 1 1) [yF (B + 2)] :=
  ⟨row_blkY h.b3 rfl rfl (by decide) (by unfold maxLen; decide), fun x hx => by
    simp at hx; subst hx
    exact ⟨row_blkY h.b2 rfl rfl (by decide) (by unfold maxLen; decide), _, _, rfl⟩⟩
theorem YAt.offP (h : YAt TB TN TO TP TV B W) : Offs W (.slice (some ⟨B + 4, 0, none⟩) 2 2) [yO0, yO1 (B + 2)] := by
  refine ⟨row_blkY h.b4 rfl rfl (by decide) (by unfold maxLen; decide), fun o ho => ?_⟩
  simp only [List.mem_cons, List.not_mem_nil, or_false] at ho
  rcases ho with rfl | rfl
  · exact ⟨Wants.nil _, _, _, rfl⟩
  · exact ⟨h.need, _, _, rfl⟩
theorem YAt.offQ (h : YAt TB TN TO TP TV B W) : Offs W (.slice (some ⟨B + 5, 0, none⟩) 1 1) [yO0] := by
  refine ⟨row_blkY h.b5 rfl rfl (by decide) (by unfold maxLen; decide), fun o ho => ?_⟩
  simp only [List.mem_cons, List.not_mem_nil, or_false] at ho
  subst ho
  exact ⟨Wants.nil _, _, _, rfl⟩
theorem YAt.packs (h : YAt TB TN TO TP TV B W) : Packs W (.slice (some ⟨B + 6, 0, none⟩) 2 2) (yPs (B + 2)) := by
  refine ⟨row_blkY h.b6 rfl rfl (by decide) (by unfold maxLen; decide), fun p hp => ?_⟩
  unfold yPs at hp
  simp only [List.mem_cons, List.not_mem_nil, or_false] at hp
  rcases hp with rfl | rfl
  · exact ⟨h.offP, _, _, rfl⟩
  · exact ⟨h.offQ, _, _, rfl⟩
theorem YAt.needs (h : YAt TB TN TO TP TV B W) : Wants W (.slice (some ⟨B + 7, 0, none⟩) 1 1) yNs :=
  ⟨row_blkY h.b7 rfl rfl (by decide) (by unfold maxLen; decide), fun x hx => by
    simp [yNs] at hx; subst hx
    exact ⟨bnds_nilY _, _, _, rfl⟩⟩
end
theorem y_tab {b : Nat} {ts : List DPack} (h : TableIs [] yNs (yPs b) ts) : TabB (ppL ts) := by
  rw [tables_pp h (y_table b), y_ppL]
  refine ⟨by decide, fun p hp => ?_⟩
  unfold yT at hp
  simp only [List.mem_cons, List.not_mem_nil, or_false] at hp
  rcases hp with rfl | rfl
  · refine ⟨by show 2 ≤ 1000000; decide, fun o ho => ?_⟩
    simp only [List.mem_cons, List.not_mem_nil, or_false] at ho
    rcases ho with rfl | rfl
    · refine ⟨Nat.zero_le _, by show 1 ≤ 1000000; decide, fun n hn => ?_⟩
      simp only [List.mem_cons, List.not_mem_nil, or_false] at hn
      subst hn
      refine ⟨by show 1 ≤ 1000; decide, fun b hb => ?_⟩
      unfold yFar at hb
      simp only [List.mem_cons, List.not_mem_nil, or_false] at hb
      subst hb
      exact Nat.zero_le _
    · exact ⟨Nat.zero_le _, Nat.zero_le _, fun n hn => by cases hn⟩
  · refine ⟨by show 1 ≤ 1000000; decide, fun o ho => ?_⟩
    simp only [List.mem_cons, List.not_mem_nil, or_false] at ho
    subst ho
    exact ⟨Nat.zero_le _, Nat.zero_le _, fun n hn => by cases hn⟩
theorem y_tabz {b : Nat} {ts : List DPack} (h : TableIs [] yZs (yPs b) ts) : TabB (ppL ts) := by
  rw [tables_pp h (y_tablez b)]
  refine ⟨by decide, fun p hp => ?_⟩
  have hp : p ∈ [(⟨[122], []⟩ : PP)] := hp
  simp only [List.mem_cons, List.not_mem_nil, or_false] at hp
  subst hp
  exact ⟨Nat.zero_le _, fun o ho => by cases ho⟩
theorem y_os (b : Nat) : ∀ p ∈ yPs b, p.os.length ≤ 1000000 ∧ ∀ o ∈ p.os, o.v.p.size ≤ 300 := fun p hp => by
  unfold yPs at hp
  simp only [List.mem_cons, List.not_mem_nil, or_false] at hp
  rcases hp with rfl | rfl
  · refine ⟨by show 2 ≤ 1000000; decide, fun o ho => ?_⟩
    simp only [List.mem_cons, List.not_mem_nil, or_false] at ho
    rcases ho with rfl | rfl <;> exact Nat.zero_le _
  · refine ⟨by show 1 ≤ 1000000; decide, fun o ho => ?_⟩
    simp only [List.mem_cons, List.not_mem_nil, or_false] at ho
    subst ho
    exact Nat.zero_le _
theorem y_ons (b : Nat) : ∀ p ∈ yPs b, ∀ o ∈ p.os, o.ns.length ≤ 1000000 ∧ ∀ x ∈ o.ns, x.1.bs.length ≤ 1000 := fun p hp o ho => by
  unfold yPs at hp
  simp only [List.mem_cons, List.not_mem_nil, or_false] at hp
  rcases hp with rfl | rfl
  · simp only [List.mem_cons, List.not_mem_nil, or_false] at ho
    rcases ho with rfl | rfl
    · exact ⟨Nat.zero_le _, fun x hx => by cases hx⟩
    · refine ⟨by show 1 ≤ 1000000; decide, fun x hx => ?_⟩
      simp [yO1] at hx; subst hx
      show 1 ≤ 1000; decide
  · simp only [List.mem_cons, List.not_mem_nil, or_false] at ho
    subst ho
    exact ⟨Nat.zero_le _, fun x hx => by cases hx⟩
end Go
namespace Go.Proofs.YtllkiedikjgkbaaGreatDoor
open Go.RowKit Go.Maps
theorem y_ctx {TB TN TO TP TV : TypeId} {B : Nat} {W : World} (h : YAt TB TN TO TP TV B W) (hE : Env W) : TabCtx [] yNs (yPs (B + 2)) (.slice (some ⟨B + 6, 0, none⟩) 2 2) (.slice none 0 0) (.slice (some ⟨B + 7, 0, none⟩) 1 1) W := by
  have hn : allNames yNs (yPs (B + 2)) = [[112], [113]] := rfl
  refine ⟨h.packs, ⟨rfl, Nat.zero_le _, .inl ⟨_, _, rfl, rfl, fun _ => rfl⟩⟩, h.needs, hE, y_os _, y_ons _, fun x hx => ?_, fun a ha => ?_, by rw [hn]; decide⟩
  · simp [yNs] at hx; subst hx
    exact ⟨Nat.zero_le _, fun b hb => by cases hb⟩
  · rw [hn] at ha
    simp only [List.mem_cons, List.not_mem_nil, or_false] at ha
    rcases ha with rfl | rfl <;> decide
theorem y_ctxz {TB TN TO TP TV : TypeId} {B bz : Nat} {W : World} (h : YAt TB TN TO TP TV B W) (hE : Env W) (hz : W.heap[bz]? = some (.cells #[.string yZ, .slice none 0 0] TN)) : TabCtx [] yZs (yPs (B + 2)) (.slice (some ⟨B + 6, 0, none⟩) 2 2) (.slice none 0 0) (.slice (some ⟨bz, 0, none⟩) 1 1) W := by
  have hn : allNames yZs (yPs (B + 2)) = [[122], [113]] := rfl
  refine ⟨h.packs, ⟨rfl, Nat.zero_le _, .inl ⟨_, _, rfl, rfl, fun _ => rfl⟩⟩, ⟨row_blkY hz rfl rfl (by decide) (by unfold maxLen; decide), fun x hx => ?_⟩, hE, y_os _, y_ons _, fun x hx => ?_, fun a ha => ?_, by rw [hn]; decide⟩
  · simp [yZs] at hx; subst hx
    exact ⟨bnds_nilY _, _, _, rfl⟩
  · simp [yZs] at hx; subst hx
    exact ⟨Nat.zero_le _, fun b hb => by cases hb⟩
  · rw [hn] at ha
    simp only [List.mem_cons, List.not_mem_nil, or_false] at ha
    rcases ha with rfl | rfl <;> decide
theorem y_solve {TB TN TO TP TV : TypeId} {B : Nat} {W : World} (h : YAt TB TN TO TP TV B W) (hE : Env W) (bud : Int) (h0 : -9223372036854775808 ≤ bud) (h1 : bud ≤ 9223372036854775807) {r : List Pik} {n : Nat} {er : Int} (hs : SolIs [] yNs (yPs (B + 2)) bud r n er) :
    Calls Tryz.prog 26 #[.slice (some ⟨B + 6, 0, none⟩) 2 2, .slice none 0 0, .slice (some ⟨B + 7, 0, none⟩) 1 1, .int .i64 bud] W fun e w' => ∃ v, e = .returned (.tuple #[v, .int .i64 (n : Int), .int .i64 er]) ∧ Piks w' v r ∧ Below W.heap.size W w' := by
  refine (solve_as (y_ctx h hE) (fun ts ht => y_tab ht) bud h0 h1).mono ?_
  rintro e w' ⟨v, r', n', er', rfl, hs', hp, hb⟩
  obtain ⟨rfl, rfl, rfl⟩ := hs'.uniq hs
  exact ⟨v, rfl, hp, hb⟩
theorem y_solvez {TB TN TO TP TV : TypeId} {B bz : Nat} {W : World} (h : YAt TB TN TO TP TV B W) (hE : Env W) (hz : W.heap[bz]? = some (.cells #[.string yZ, .slice none 0 0] TN)) :
    Calls Tryz.prog 26 #[.slice (some ⟨B + 6, 0, none⟩) 2 2, .slice none 0 0, .slice (some ⟨bz, 0, none⟩) 1 1, .int .i64 3] W fun e w' => ∃ v, e = .returned (.tuple #[v, .int .i64 0, .int .i64 250]) ∧ Below W.heap.size W w' := by
  refine (solve_as (y_ctxz h hE hz) (fun ts ht => y_tabz ht) 3 (by decide) (by decide)).mono ?_
  rintro e w' ⟨v, r', n', er', rfl, hs', hp, hb⟩
  obtain ⟨rfl, rfl, rfl⟩ := hs'.uniq (y_solz _)
  exact ⟨v, rfl, hb⟩
theorem y_hold {TB TN TO TP TV : TypeId} {B : Nat} {W : World} (h : YAt TB TN TO TP TV B W) (hE : Env W) {xv : Value} {picks : List Pik} (hx : Piks W xv picks) (hx6 : picks.length ≤ 1000000) {b : Bool} (hb : ∀ ts, TableIs [] yNs (yPs (B + 2)) ts → (HoldsIs (ppL ts) (askN yNs) picks ↔ b = true)) :
    Calls Tryz.prog 29 #[.slice (some ⟨B + 6, 0, none⟩) 2 2, .slice none 0 0, .slice (some ⟨B + 7, 0, none⟩) 1 1, xv] W fun e w' => e = .returned (.bool b) ∧ Below W.heap.size W w' := by
  refine (solHolds_as (y_ctx h hE) (fun ts ht => y_tab ht) hx hx.len hx6).mono ?_
  rintro e w' ⟨b', rfl, ⟨ts, ht, hi⟩, hbl⟩
  have : b' = b := Bool.eq_iff_iff.2 (hi.trans (hb ts ht))
  subst this
  exact ⟨rfl, hbl⟩
set_option maxRecDepth 100000 in
set_option maxHeartbeats 4000000 in
theorem solAwake_any (w : World) (hE : Env w) : Calls Tryz.prog 25 #[] w fun e w' => e = .returned (.bool true) ∧ Below w.heap.size w w' := by
  have HE := Lib.hid hE
  clear hE
  have hst := alloc8 w (.cells #[.int .i64 1, .int .i64 0, .int .i64 0, .string ⟨#[]⟩] 37) (.cells #[.int .i64 1, .int .i64 1, .int .i64 0, .string ⟨#[]⟩] 37) (.cells #[.int .i64 4, .int .i64 2, .int .i64 0, .int .i64 0, .string ⟨#[]⟩] 100) (.cells #[.string ⟨#[113]⟩, .slice (some ⟨w.heap.size + 1 + 1, 0, none⟩) 1 1] 35) (.cells #[.int .i64 1, .int .i64 0, .int .i64 0, .string ⟨#[]⟩, .bool false, .slice none 0 0, .int .i64 1, .int .i64 1, .int .i64 0, .string ⟨#[]⟩, .bool false, .slice (some ⟨w.heap.size + 1 + 1 + 1, 0, none⟩) 1 1] 39) (.cells #[.int .i64 1, .int .i64 0, .int .i64 0, .string ⟨#[]⟩, .bool false, .slice none 0 0] 39) (.cells #[.string ⟨#[112]⟩, .slice (some ⟨w.heap.size + 1 + 1 + 1 + 1, 0, none⟩) 2 2, .string ⟨#[113]⟩, .slice (some ⟨w.heap.size + 1 + 1 + 1 + 1 + 1, 0, none⟩) 1 1] 29) (.cells #[.string ⟨#[112]⟩, .slice none 0 0] 35)
  have HSt := Lib.hid hst
  clear hst
  go_enter Tryz.func25, Tryz.ntmps25
  go_wp2_with fail
  have h8 := HSt.out
  generalize (((((((w.alloc (.cells #[.int .i64 1, .int .i64 0, .int .i64 0, .string ⟨#[]⟩] 37)).alloc (.cells #[.int .i64 1, .int .i64 1, .int .i64 0, .string ⟨#[]⟩] 37)).alloc (.cells #[.int .i64 4, .int .i64 2, .int .i64 0, .int .i64 0, .string ⟨#[]⟩] 100)).alloc (.cells #[.string ⟨#[113]⟩, .slice (some ⟨w.heap.size + 1 + 1, 0, none⟩) 1 1] 35)).alloc (.cells #[.int .i64 1, .int .i64 0, .int .i64 0, .string ⟨#[]⟩, .bool false, .slice none 0 0, .int .i64 1, .int .i64 1, .int .i64 0, .string ⟨#[]⟩, .bool false, .slice (some ⟨w.heap.size + 1 + 1 + 1, 0, none⟩) 1 1] 39)).alloc (.cells #[.int .i64 1, .int .i64 0, .int .i64 0, .string ⟨#[]⟩, .bool false, .slice none 0 0] 39)).alloc (.cells #[.string ⟨#[112]⟩, .slice (some ⟨w.heap.size + 1 + 1 + 1 + 1, 0, none⟩) 2 2, .string ⟨#[113]⟩, .slice (some ⟨w.heap.size + 1 + 1 + 1 + 1 + 1, 0, none⟩) 1 1] 29)).alloc (.cells #[.string ⟨#[112]⟩, .slice none 0 0] 35) = W8 at *
  simp only [Nat.add_assoc, Nat.reduceAdd] at h8 ⊢
  obtain ⟨B, hB⟩ : ∃ b, w.heap.size = b := ⟨_, rfl⟩
  rw [hB] at h8 ⊢
  have hA : YAt 100 35 39 29 37 B W8 := ⟨h8.1.1, h8.1.2.1, h8.1.2.2.1, h8.1.2.2.2.1, h8.1.2.2.2.2.1, h8.1.2.2.2.2.2.1, h8.1.2.2.2.2.2.2⟩
  have HW : Hid (Below w.heap.size w W8) := by show Below _ _ _; rw [hB]; exact h8.2
  have HA := Lib.hid hA
  clear h8 hA hB HSt
  have HS10 := Lib.hid (y_solve HA.out (HE.out.below HW.out) 10 (by decide) (by decide) (y_sol10 _))
  refine HS10.out.mono ?_
  rintro e w1 ⟨v1, rfl, hp1, hb1⟩
  have HA1 := Lib.hid (HA.out.on hb1)
  have HW1 := Lib.hid (HW.out.trans (hb1.mono HW.out.size))
  have HP1 := Lib.hid hp1
  have HS3 := Lib.hid (y_solve HA1.out (HE.out.below HW1.out) 3 (by decide) (by decide) (y_sol3 _))
  clear hp1 hb1
  go_wp2_with fail
  refine HS3.out.mono ?_
  rintro e w2 ⟨v2, rfl, _, hb2⟩
  have HA2 := Lib.hid (HA1.out.on hb2)
  have HW2 := Lib.hid (HW1.out.trans (hb2.mono HW1.out.size))
  have HP2 := Lib.hid (HP1.out.below hb2 (Nat.le_refl _))
  have hal := (Below.refl w2.heap.size w2).alloc (Nat.le_refl _) (.cells #[.string yZ, .slice none 0 0] 35)
  have HA3 := Lib.hid (HA2.out.on hal)
  have HW3 := Lib.hid (HW2.out.trans (hal.mono HW2.out.size))
  have HP3 := Lib.hid (HP2.out.below hal (Nat.le_refl _))
  have HSz := Lib.hid (y_solvez HA3.out (HE.out.below HW3.out) (Below_heap_new w2 _))
  clear hb2 hal
  go_wp2_with fail
  refine HSz.out.mono ?_
  rintro e w4 ⟨v4, rfl, hb4⟩
  have HA4 := Lib.hid (HA3.out.on hb4)
  have HW4 := Lib.hid (HW3.out.trans (hb4.mono HW3.out.size))
  have HP4 := Lib.hid (HP3.out.below hb4 (Nat.le_refl _))
  have c0 := blk_cells HA4.out.b0 0
  have c1 := blk_cells HA4.out.b0 1
  have c2 := blk_cells HA4.out.b0 2
  have c3 := blk_cells HA4.out.b0 3
  simp only [List.getElem?_toArray, List.getElem?_cons_zero, List.getElem?_cons_succ] at c0 c1 c2 c3
  have hzB := cell_lt c0
  have hal := (Below.refl w4.heap.size w4).alloc (Nat.le_refl _) (.cells #[.string yP, .int .i64 1, .int .i64 0, .int .i64 0, .string ⟨#[]⟩] 45)
  have HA5 := Lib.hid (HA4.out.on hal)
  have HW5 := Lib.hid (HW4.out.trans (hal.mono HW4.out.size))
  have HP5 := Lib.hid (HP4.out.below hal (Nat.le_refl _))
  have hxs : Piks (w4.alloc (.cells #[.string yP, .int .i64 1, .int .i64 0, .int .i64 0, .string ⟨#[]⟩] 45)) (.slice (some ⟨w4.heap.size, 0, none⟩) 1 1) yL := row_blkY (Below_heap_new w4 _) rfl rfl (by decide) (by unfold maxLen; decide)
  have HSm := Lib.hid (samePk_any v1 _ yL yL _ HP5.out HP5.out.len hxs ⟨_, _, rfl⟩ (by decide))
  clear hb4 hal hxs
  go_wp2_with fail
  refine HSm.out.mono ?_
  rintro e w6 ⟨rfl, hb6⟩
  have hsm : samePk yL yL = true := decide_eq_true rfl
  have HA6 := Lib.hid (HA5.out.on hb6)
  have HW6 := Lib.hid (HW5.out.trans (hb6.mono HW5.out.size))
  have HP6 := Lib.hid (HP5.out.below hb6 (Nat.le_refl _))
  have HH := Lib.hid (y_hold HA6.out (HE.out.below HW6.out) HP6.out (by decide) (b := true) (fun ts ht => ⟨fun _ => rfl, fun _ => y_holds _ ht⟩))
  rw [hsm]
  clear hb6 hsm c0 c1 c2 c3
  go_wp2_with fail
  refine HH.out.mono ?_
  rintro e w7 ⟨rfl, hb7⟩
  have HA7 := Lib.hid (HA6.out.on hb7)
  have HW7 := Lib.hid (HW6.out.trans (hb7.mono HW6.out.size))
  have hnil : Piks w7 (.slice none 0 0) [] := ⟨rfl, Nat.zero_le _, .inl ⟨_, _, rfl, rfl, fun _ => rfl⟩⟩
  have HN := Lib.hid (y_hold HA7.out (HE.out.below HW7.out) hnil (by decide) (b := false) (fun ts ht => ⟨fun h => absurd h (y_not ht), fun h => by cases h⟩))
  clear hb7 hnil
  go_wp2_with fail
  refine HN.out.mono ?_
  rintro e w9 ⟨rfl, hb9⟩
  have HW9 := Lib.hid (HW7.out.trans (hb9.mono HW7.out.size))
  clear hb9
  go_wp2_with fail
  go_ret
  exact ⟨rfl, HW9.out⟩
end Go.Proofs.YtllkiedikjgkbaaGreatDoor
