/- Choices: what the laws' probes look at. -/
import Derived.Test.YtllkiedikjgkbaaGreatDoorChCounts
import Derived.Test.YtllkiedikjgkbaaGreatDoorChChk
namespace Go
open Go.RowKit
def bP : ByteArray := ⟨#[112]⟩
def bQ : ByteArray := ⟨#[113]⟩
def aV (m : Int) : V4 := ⟨1, m, 0, ⟨#[]⟩⟩
def awN (n : Nam) : Want × Value := (⟨n, []⟩, .slice none 0 0)
def awO (m : Int) (y : Bool) (ns : List (Want × Value)) (a : Option Addr) (c : Nat) : DOff := ⟨aV m, y, ns, a, c⟩
def awNs : List (Want × Value) := [awN [112]]
/-- the probe's offers; 'b': where the one's need lies -/
def awOs (b : Nat) : List DOff := [awO 0 false [] none 0, awO 1 true [] none 0, awO 2 false [awN [113]] (some ⟨b, 0, none⟩) 1]
def awL : List Pik := [⟨bP, aV 1⟩]
theorem aw_sel1 (b : Nat) : selL awL bP awNs (awOs b) = awOs b := rfl
theorem aw_sel2 (b : Nat) : selL [] bP awNs (awOs b) = [awO 0 false [] none 0, awO 2 false [awN [113]] (some ⟨b, 0, none⟩) 1] := rfl
def awOut (b : Nat) : List DOff := [awO 1 true [] none 0, awO 2 false [awN [113]] (some ⟨b, 0, none⟩) 1, awO 0 false [] none 0]
theorem choice_nilA (lock : List Pik) (nm : ByteArray) (needs : List (Want × Value)) : ChoiceIs lock nm needs [] [] := ⟨List.Perm.refl _, List.Pairwise.nil⟩
theorem aw_perm {α : Type} (x y z : α) : [y, z, x].Perm [x, y, z] := (List.perm_append_comm : ([y, z] ++ [x]).Perm ([x] ++ [y, z]))
theorem aw_choice1 (b : Nat) : ChoiceIs awL bP awNs (awOs b) (awOut b) := by
  refine ⟨by rw [aw_sel1]; exact aw_perm _ _ _, ?_⟩
  unfold awOut
  refine List.pairwise_cons.2 ⟨?_, List.pairwise_cons.2 ⟨?_, List.pairwise_cons.2 ⟨by simp, List.Pairwise.nil⟩⟩⟩
  · intro x hx
    simp only [List.mem_cons, List.not_mem_nil, or_false] at hx
    rcases hx with rfl | rfl
    · show or2 (lockN awL bP (aV 1) (aV 2)) (V4.cmp (aV 2) (aV 1)) < 0; decide
    · show or2 (lockN awL bP (aV 1) (aV 0)) (V4.cmp (aV 0) (aV 1)) < 0; decide
  · intro x hx
    simp only [List.mem_cons, List.not_mem_nil, or_false] at hx
    subst hx
    show or2 (lockN awL bP (aV 2) (aV 0)) (V4.cmp (aV 0) (aV 2)) < 0; decide
def awOut2 (b : Nat) : List DOff := [awO 2 false [awN [113]] (some ⟨b, 0, none⟩) 1, awO 0 false [] none 0]
theorem aw_choice2 (b : Nat) : ChoiceIs [] bP awNs (awOs b) (awOut2 b) := by
  refine ⟨by rw [aw_sel2]; exact List.Perm.swap _ _ _, ?_⟩
  unfold awOut2
  refine List.pairwise_cons.2 ⟨?_, List.pairwise_cons.2 ⟨by simp, List.Pairwise.nil⟩⟩
  intro x hx
  simp only [List.mem_cons, List.not_mem_nil, or_false] at hx
  subst hx
  show or2 (lockN [] bP (aV 2) (aV 0)) (V4.cmp (aV 0) (aV 2)) < 0; decide
def awPs (b c : Nat) : List DPack := [⟨bP, awOs b, some ⟨c, 0, none⟩, 3⟩]
def awTs (b : Nat) : List DPack := [⟨bP, awOut2 b, none, 0⟩, ⟨bQ, [], none, 0⟩]
theorem aw_find1 (b c : Nat) : findP (awPs b c) (S [112]) = ⟨bP, awOs b, some ⟨c, 0, none⟩, 3⟩ := rfl
theorem aw_find2 (b c : Nat) : findP (awPs b c) (S [113]) = ⟨bQ, [], none, 0⟩ := rfl
theorem aw_edge1 (b c : Nat) : EdgeN [] awNs (awPs b c) [112] [113] := ⟨awO 2 false [awN [113]] (some ⟨b, 0, none⟩) 1, by
  rw [aw_find1]
  show _ ∈ selL [] bP awNs (awOs b)
  rw [aw_sel2]; simp, awN [113], by simp [awO], rfl⟩
theorem aw_table (b c : Nat) : TableIs [] awNs (awPs b c) (awTs b) := by
  refine ⟨?_, fun a => ⟨fun h => ?_, fun h => ?_⟩, fun t ht => ?_⟩
  · show ([[112], [113]] : List Nam).Pairwise (· < ·)
    exact List.pairwise_cons.2 ⟨by simp; decide, List.pairwise_cons.2 ⟨by simp, List.Pairwise.nil⟩⟩
  · have h : a ∈ ([[112], [113]] : List Nam) := h
    simp only [List.mem_cons, List.not_mem_nil, or_false] at h
    rcases h with rfl | rfl
    · exact ⟨[112], by simp [awNs, awN, wname], .refl _⟩
    · exact ⟨[112], by simp [awNs, awN, wname], .tail (.refl _) (aw_edge1 b c)⟩
  · show a ∈ ([[112], [113]] : List Nam)
    obtain ⟨s, hs, hg⟩ := h
    have hs2 : s ∈ ([[112], [113]] : List Nam) := by simp [awNs, awN, wname] at hs; subst hs; simp
    refine closed_goes (fun x hx d hd => ?_) hs2 hg
    obtain ⟨o, ho, n, hn, rfl⟩ := hd
    simp only [List.mem_cons, List.not_mem_nil, or_false] at hx
    rcases hx with rfl | rfl
    · rw [aw_find1] at ho
      have ho : o ∈ selL [] bP awNs (awOs b) := ho
      rw [aw_sel2] at ho
      simp only [List.mem_cons, List.not_mem_nil, or_false] at ho
      rcases ho with rfl | rfl
      · cases hn
      · simp [awO] at hn; subst hn; simp [awN, wname]
    · rw [aw_find2] at ho
      cases ho
  · unfold awTs at ht
    simp only [List.mem_cons, List.not_mem_nil, or_false] at ht
    rcases ht with rfl | rfl
    · exact ⟨awOut2 b, by have h := aw_choice2 b; rw [show findP (awPs b c) bP = _ from aw_find1 b c]; exact h, SimOs.refl _⟩
    · exact ⟨[], by rw [show findP (awPs b c) bQ = _ from aw_find2 b c]; exact choice_nilA _ _ _, SimOs.refl _⟩
end Go
namespace Go
open Go.RowKit
theorem row_blk {w : World} {b : Nat} {T : TypeId} {cs : Array Value} {xs : List Value} {size n cap : Nat} (h : w.heap[b]? = some (.cells cs T)) (hcs : cs = xs.toArray) (hl : xs.length = n * size) (h0 : 0 < n) (hm : n ≤ maxLen) : Row w size (.slice (some ⟨b, 0, none⟩) n cap) n xs := by
  refine ⟨hl, hm, .inr ⟨b, 0, cap, rfl, h0, (Array.getElem?_eq_some_iff.1 h).1, fun j hj => ?_⟩⟩
  rw [blk_cells h, hcs, Nat.zero_add]; simp
def awC6 (m : Int) (y : Bool) (v : Value) : List Value := [.int .i64 1, .int .i64 m, .int .i64 0, .string ⟨#[]⟩, .bool y, v]
/-- what the probe has laid -/
structure AwAt (TN TO TP : TypeId) (B : Nat) (W : World) : Prop where
  b3 : W.heap[B + 3]? = some (.cells #[.string bQ, .slice none 0 0] TN)
  b4 : W.heap[B + 4]? = some (.cells #[.int .i64 1, .int .i64 0, .int .i64 0, .string ⟨#[]⟩, .bool false, .slice none 0 0, .int .i64 1, .int .i64 1, .int .i64 0, .string ⟨#[]⟩, .bool true, .slice none 0 0, .int .i64 1, .int .i64 2, .int .i64 0, .string ⟨#[]⟩, .bool false, .slice (some ⟨B + 3, 0, none⟩) 1 1] TO)
  b5 : W.heap[B + 5]? = some (.cells #[.string bP, .slice (some ⟨B + 4, 0, none⟩) 3 3] TP)
  b6 : W.heap[B + 6]? = some (.cells #[.string bP, .slice none 0 0] TN)
section
variable {TN TO TP : TypeId} {B : Nat} {W W' : World}
theorem AwAt.on (h : AwAt TN TO TP B W) (hb : Below W.heap.size W W') : AwAt TN TO TP B W' := by
  have lt : ∀ {i : Nat} {o : Obj}, W.heap[i]? = some o → W'.heap[i]? = some o := fun {i o} hi => (hb.block i (Array.getElem?_eq_some_iff.1 hi).1).trans hi
  exact ⟨lt h.b3, lt h.b4, lt h.b5, lt h.b6⟩
theorem bnds_nil (W : World) : Bnds W (.slice none 0 0) [] := ⟨rfl, Nat.zero_le _, .inl ⟨_, _, rfl, rfl, fun _ => rfl⟩⟩
theorem rv_nil (W : World) (n : Nam) : RvOk W (awN n) := ⟨bnds_nil W, _, _, rfl⟩
theorem AwAt.needs (h : AwAt TN TO TP B W) : Wants W (.slice (some ⟨B + 6, 0, none⟩) 1 1) awNs :=
  ⟨row_blk h.b6 rfl rfl (by decide) (by unfold maxLen; decide), fun x hx => by simp [awNs] at hx; subst hx; exact rv_nil _ _⟩
theorem AwAt.offs (h : AwAt TN TO TP B W) : Offs W (.slice (some ⟨B + 4, 0, none⟩) 3 3) (awOs (B + 3)) := by
  refine ⟨row_blk h.b4 rfl rfl (by decide) (by unfold maxLen; decide), fun o ho => ?_⟩
  unfold awOs at ho
  simp only [List.mem_cons, List.not_mem_nil, or_false] at ho
  rcases ho with rfl | rfl | rfl
  · exact ⟨Wants.nil _, _, _, rfl⟩
  · exact ⟨Wants.nil _, _, _, rfl⟩
  · exact ⟨⟨row_blk h.b3 rfl rfl (show 0 < 1 by decide) (show 1 ≤ maxLen by unfold maxLen; decide), fun x hx => by simp [awO] at hx; subst hx; exact rv_nil _ _⟩, _, _, rfl⟩
end
theorem aw_p300 (b : Nat) : ∀ o ∈ awOs b, o.v.p.size ≤ 300 := fun o ho => by
  unfold awOs at ho
  simp only [List.mem_cons, List.not_mem_nil, or_false] at ho
  rcases ho with rfl | rfl | rfl <;> exact Nat.zero_le _
theorem aw_nd : ∀ x ∈ awNs, x.1.bs.length ≤ 1000 ∧ ∀ b ∈ x.1.bs, b.v.p.size ≤ 300 := fun x hx => by
  simp [awNs] at hx; subst hx; exact ⟨by decide, fun b hb => by cases hb⟩
theorem aw_count {q0 q1 : DPack} (h0 : bP = q0.name) (h1 : bQ = q1.name) (l0 : q0.os.length = 2) (l1 : q1.os.length = 0) : countN awNs [q0, q1] 100 = 2 := by
  have w0 : waysN awNs q0 = 2 := by unfold waysN; rw [l0, ← h0]; rfl
  have w1 : waysN awNs q1 = 1 := by unfold waysN; rw [l1, ← h1]; rfl
  unfold countN
  rw [if_neg (by simp [w0, w1])]
  simp [w0, w1, prodN]
theorem two_of {α : Type} {l : List α} (h : l.length = 2) : ∃ a b, l = [a, b] := by
  match l, h with
  | [a, b], _ => exact ⟨a, b, rfl⟩
/-- what the last region looks at -/
def AwT (bo oo bx ox : Nat) (v0 : Value) (w0 W : World) : Prop :=
  (W.cell? ⟨bo, oo, none⟩ = some (.int .i64 1) ∧ W.cell? ⟨bo, oo + 1, none⟩ = some (.int .i64 1) ∧ W.cell? ⟨bo, oo + 2, none⟩ = some (.int .i64 0) ∧ W.cell? ⟨bo, oo + 3, none⟩ = some (.string ⟨#[]⟩)) ∧
  (W.cell? ⟨bo, oo + 6, none⟩ = some (.int .i64 1) ∧ W.cell? ⟨bo, oo + 6 + 1, none⟩ = some (.int .i64 2) ∧ W.cell? ⟨bo, oo + 6 + 2, none⟩ = some (.int .i64 0) ∧ W.cell? ⟨bo, oo + 6 + 3, none⟩ = some (.string ⟨#[]⟩)) ∧
  (W.cell? ⟨bo, oo + 12, none⟩ = some (.int .i64 1) ∧ W.cell? ⟨bo, oo + 12 + 1, none⟩ = some (.int .i64 0) ∧ W.cell? ⟨bo, oo + 12 + 2, none⟩ = some (.int .i64 0) ∧ W.cell? ⟨bo, oo + 12 + 3, none⟩ = some (.string ⟨#[]⟩)) ∧
  W.cell? ⟨bx, ox, none⟩ = some (.string ⟨#[112]⟩) ∧ W.cell? ⟨bx, ox + 1, none⟩ = some v0 ∧ W.cell? ⟨bx, ox + 2, none⟩ = some (.string ⟨#[113]⟩) ∧ Below w0.heap.size w0 W
theorem AwT.on {bo oo bx ox : Nat} {v0 : Value} {w0 W W' : World} (h : AwT bo oo bx ox v0 w0 W) (hb : Below W.heap.size W W') : AwT bo oo bx ox v0 w0 W' := by
  obtain ⟨⟨a0, a1, a2, a3⟩, ⟨b0, b1, b2, b3⟩, ⟨c0, c1, c2, c3⟩, d0, d1, d2, e⟩ := h
  exact ⟨⟨cell_on a0 hb, cell_on a1 hb, cell_on a2 hb, cell_on a3 hb⟩, ⟨cell_on b0 hb, cell_on b1 hb, cell_on b2 hb, cell_on b3 hb⟩, ⟨cell_on c0 hb, cell_on c1 hb, cell_on c2 hb, cell_on c3 hb⟩, cell_on d0 hb, cell_on d1 hb, cell_on d2 hb, below_then e hb⟩
theorem aw_names (b c : Nat) : ∀ a ∈ allNames awNs (awPs b c), a.length ≤ 1000 := by
  intro a ha
  have : allNames awNs (awPs b c) = [[112], [113]] := rfl
  rw [this] at ha
  simp only [List.mem_cons, List.not_mem_nil, or_false] at ha
  rcases ha with rfl | rfl <;> decide
/-- what the region looks at -/
def AwS (B : Nat) (w0 W : World) : Prop := W.cell? ⟨B + 5, 0, none⟩ = some (.string bP) ∧ W.cell? ⟨B + 5, 1, none⟩ = some (.slice (some ⟨B + 4, 0, none⟩) 3 3) ∧ Below w0.heap.size w0 W
theorem AwS.on {B : Nat} {w0 W W' : World} (h : AwS B w0 W) (hb : Below W.heap.size W W') : AwS B w0 W' := ⟨cell_on h.1 hb, cell_on h.2.1 hb, below_then h.2.2 hb⟩
end Go
namespace Go.Proofs.YtllkiedikjgkbaaGreatDoor
open Go.RowKit Go.Maps
set_option maxRecDepth 100000 in
set_option maxHeartbeats 1000000 in
theorem v_as (m : Int) (w : World) : Calls Tryz.prog 42 #[.int .i64 m] w fun e w' => e = .returned (.agg #[.int .i64 1, .int .i64 m, .int .i64 0, .string ⟨#[]⟩]) ∧ w' = w.alloc (.cells #[.int .i64 1, .int .i64 m, .int .i64 0, .string ⟨#[]⟩] 37) := by
  go_enter Tryz.func42, Tryz.ntmps42
  go_wp2_with fail
  exact bodyPost_ret (v := .agg #[.int .i64 1, .int .i64 m, .int .i64 0, .string ⟨#[]⟩]) (by simp [results, Tryz.results42, go_sem]) rfl ⟨rfl, rfl⟩
theorem aw_start (w : World) : AwAt 35 39 29 w.heap.size (((((((w.alloc (.cells #[.int .i64 1, .int .i64 0, .int .i64 0, .string ⟨#[]⟩] 37)).alloc (.cells #[.int .i64 1, .int .i64 1, .int .i64 0, .string ⟨#[]⟩] 37)).alloc (.cells #[.int .i64 1, .int .i64 2, .int .i64 0, .string ⟨#[]⟩] 37)).alloc (.cells #[.string ⟨#[113]⟩, .slice none 0 0] 35)).alloc (.cells #[.int .i64 1, .int .i64 0, .int .i64 0, .string ⟨#[]⟩, .bool false, .slice none 0 0, .int .i64 1, .int .i64 1, .int .i64 0, .string ⟨#[]⟩, .bool true, .slice none 0 0, .int .i64 1, .int .i64 2, .int .i64 0, .string ⟨#[]⟩, .bool false, .slice (some ⟨w.heap.size + 1 + 1 + 1, 0, none⟩) 1 1] 39)).alloc (.cells #[.string ⟨#[112]⟩, .slice (some ⟨w.heap.size + 1 + 1 + 1 + 1, 0, none⟩) 3 3] 29)).alloc (.cells #[.string ⟨#[112]⟩, .slice none 0 0] 35)) ∧ Below w.heap.size w (((((((w.alloc (.cells #[.int .i64 1, .int .i64 0, .int .i64 0, .string ⟨#[]⟩] 37)).alloc (.cells #[.int .i64 1, .int .i64 1, .int .i64 0, .string ⟨#[]⟩] 37)).alloc (.cells #[.int .i64 1, .int .i64 2, .int .i64 0, .string ⟨#[]⟩] 37)).alloc (.cells #[.string ⟨#[113]⟩, .slice none 0 0] 35)).alloc (.cells #[.int .i64 1, .int .i64 0, .int .i64 0, .string ⟨#[]⟩, .bool false, .slice none 0 0, .int .i64 1, .int .i64 1, .int .i64 0, .string ⟨#[]⟩, .bool true, .slice none 0 0, .int .i64 1, .int .i64 2, .int .i64 0, .string ⟨#[]⟩, .bool false, .slice (some ⟨w.heap.size + 1 + 1 + 1, 0, none⟩) 1 1] 39)).alloc (.cells #[.string ⟨#[112]⟩, .slice (some ⟨w.heap.size + 1 + 1 + 1 + 1, 0, none⟩) 3 3] 29)).alloc (.cells #[.string ⟨#[112]⟩, .slice none 0 0] 35)) := by
  refine ⟨⟨?_, ?_, ?_, ?_⟩, (((((((Below.refl _ _).alloc (by simp) _).alloc (by simp) _).alloc (by simp <;> omega) _).alloc (by simp <;> omega) _).alloc (by simp <;> omega) _).alloc (by simp <;> omega) _).alloc (by simp <;> omega) _⟩
  · have h := Below_heap_new (((w.alloc (.cells #[.int .i64 1, .int .i64 0, .int .i64 0, .string ⟨#[]⟩] 37)).alloc (.cells #[.int .i64 1, .int .i64 1, .int .i64 0, .string ⟨#[]⟩] 37)).alloc (.cells #[.int .i64 1, .int .i64 2, .int .i64 0, .string ⟨#[]⟩] 37)) (.cells #[.string ⟨#[113]⟩, .slice none 0 0] 35)
    simp only [World.size_alloc] at h
    exact new_alloc (new_alloc (new_alloc h _) _) _
  · refine new_alloc (new_alloc ?_ _) _
    simp only [World.alloc]
    rw [Array.getElem?_push]
    simp
  · refine new_alloc ?_ _
    simp only [World.alloc]
    rw [Array.getElem?_push]
    simp
    rfl
  · simp only [World.alloc]
    rw [Array.getElem?_push]
    simp
    rfl
set_option maxRecDepth 100000 in
set_option maxHeartbeats 4000000 in
theorem awake_any (w : World) (hE : Env w) : Calls Tryz.prog 17 #[] w fun e w' => e = .returned (.bool true) ∧ Below w.heap.size w w' := by
  have HE := Lib.hid hE
  clear hE
  go_enter Tryz.func17, Tryz.ntmps17
  go_wp2_with fail
  refine (v_as 0 _).mono ?_
  rintro e w1 ⟨rfl, rfl⟩
  go_wp2_with fail
  refine (v_as 1 _).mono ?_
  rintro e w1 ⟨rfl, rfl⟩
  go_wp2_with fail
  refine (v_as 2 _).mono ?_
  rintro e w1 ⟨rfl, rfl⟩
  go_wp2_with fail
  obtain ⟨hA, hW⟩ := aw_start w
  generalize (((((((w.alloc (.cells #[.int .i64 1, .int .i64 0, .int .i64 0, .string ⟨#[]⟩] 37)).alloc (.cells #[.int .i64 1, .int .i64 1, .int .i64 0, .string ⟨#[]⟩] 37)).alloc (.cells #[.int .i64 1, .int .i64 2, .int .i64 0, .string ⟨#[]⟩] 37)).alloc (.cells #[.string ⟨#[113]⟩, .slice none 0 0] 35)).alloc (.cells #[.int .i64 1, .int .i64 0, .int .i64 0, .string ⟨#[]⟩, .bool false, .slice none 0 0, .int .i64 1, .int .i64 1, .int .i64 0, .string ⟨#[]⟩, .bool true, .slice none 0 0, .int .i64 1, .int .i64 2, .int .i64 0, .string ⟨#[]⟩, .bool false, .slice (some ⟨w.heap.size + 1 + 1 + 1, 0, none⟩) 1 1] 39)).alloc (.cells #[.string ⟨#[112]⟩, .slice (some ⟨w.heap.size + 1 + 1 + 1 + 1, 0, none⟩) 3 3] 29)).alloc (.cells #[.string ⟨#[112]⟩, .slice none 0 0] 35)) = W7 at *
  simp only [Nat.add_assoc, Nat.reduceAdd]
  obtain ⟨B, hB⟩ : ∃ b, w.heap.size = b := ⟨_, rfl⟩
  rw [hB] at hA ⊢
  have p0 := blk_cells hA.b5 0
  have p1 := blk_cells hA.b5 1
  simp only [List.getElem?_toArray, List.getElem?_cons_zero, List.getElem?_cons_succ] at p0 p1
  have hst : AwS B W7.drew W7.drew := ⟨cell_on p0 (Below.refl _ _).drew, cell_on p1 (Below.refl _ _).drew, Below.refl _ _⟩
  have HA := Lib.hid (hA.on (Below.refl _ _).drew)
  have HW := Lib.hid hW.drew
  clear hA hW p0 p1
  refine wp_region_held_drew (S := (fun W => AwS B W7.drew W)) (by kernel_rfl) (hst) (fun hHeld => ?_)
  refine wpAnyH_take (i := 0) (v := ?_) rfl (by kernel_rfl) (by kernel_rfl) (by kernel_rfl) (fun _ _ _ h => h) (Or.inl ⟨by kernel_rfl, ?_⟩) hHeld ?_
  rotate_left
  · (rintro W ⟨e0, e1, _⟩; go_simp; (try with_reducible rfl))
  (try simp only [Act.put, List.getElem_toArray, List.getElem_cons_zero, List.setIfInBounds_toArray, List.set_cons_succ, List.set_cons_zero])
  refine wpAnyH_take (i := 4) (v := ?_) rfl (by kernel_rfl) (by kernel_rfl) (by kernel_rfl) (fun _ _ _ h => h) (Or.inl ⟨by kernel_rfl, ?_⟩) hHeld ?_
  rotate_left
  · (rintro W ⟨e0, e1, _⟩; go_simp; (try with_reducible rfl))
  (try simp only [Act.put, List.getElem_toArray, List.getElem_cons_succ, List.getElem_cons_zero, List.setIfInBounds_toArray, List.set_cons_succ, List.set_cons_zero])
  refine wpAnyH_ready (rs := [1]) (by kernel_rfl) (by simp) ?_
  refine AllReadyH.cons rfl (fun K hK => ?_) AllReadyH.nil
  go_simp
  refine (v_as 1 _).mono ?_
  rintro e w1 ⟨rfl, rfl⟩
  have hal1 := (Below.refl W7.drew.heap.size W7.drew).alloc (Nat.le_refl _) (.cells #[.int .i64 1, .int .i64 1, .int .i64 0, .string ⟨#[]⟩] 37)
  refine hK.out _ _ (hst.on hal1) (fun hHeld => ?_)
  clear hK K
  (try simp only [Act.put, List.getElem_toArray, List.getElem_cons_succ, List.getElem_cons_zero, List.setIfInBounds_toArray, List.set_cons_succ, List.set_cons_zero])
  refine wpAnyH_take (i := 2) (v := ?_) rfl (by kernel_rfl) (by kernel_rfl) (by kernel_rfl) (fun _ _ _ h => h) (Or.inl ⟨by kernel_rfl, ?_⟩) hHeld ?_
  rotate_left
  · (rintro W ⟨e0, e1, _⟩; go_simp; (try with_reducible rfl))
  (try simp only [Act.put, List.getElem_toArray, List.getElem_cons_succ, List.getElem_cons_zero, List.setIfInBounds_toArray, List.set_cons_succ, List.set_cons_zero])
  refine wpAnyH_ready (rs := [3]) (by kernel_rfl) (by simp) ?_
  refine AllReadyH.cons rfl (fun K hK => ?_) AllReadyH.nil
  go_simp
  have hal3 := hal1.alloc hal1.size (.cells #[.string ⟨#[112]⟩, .int .i64 1, .int .i64 1, .int .i64 0, .string ⟨#[]⟩] 45)
  refine hK.out _ _ (hst.on hal3) (fun hHeld => ?_)
  clear hK K
  (try simp only [Act.put, List.getElem_toArray, List.getElem_cons_succ, List.getElem_cons_zero, List.setIfInBounds_toArray, List.set_cons_succ, List.set_cons_zero])
  refine wpAnyH_ready (rs := [5]) (by kernel_rfl) (by simp) ?_
  refine AllReadyH.cons rfl (fun K hK => ?_) AllReadyH.nil
  go_simp
  have hpk := Below_heap_new (W7.drew.alloc (.cells #[.int .i64 1, .int .i64 1, .int .i64 0, .string ⟨#[]⟩] 37)) (.cells #[.string ⟨#[112]⟩, .int .i64 1, .int .i64 1, .int .i64 0, .string ⟨#[]⟩] 45)
  rw [World.size_alloc] at hpk
  have hE5 := HE.out.below (HW.out.trans (hal3.mono HW.out.size))
  have hA5 := HA.out.on hal3
  refine (offers_any bP (.slice (some ⟨B + 4, 0, none⟩) 3 3) (awOs (B + 3)) (.slice (some ⟨W7.heap.size + 1, 0, none⟩) 1 1) awL (.slice (some ⟨B + 6, 0, none⟩) 1 1) awNs _ hA5.offs (row_blk (xs := awL.flatMap Pik.cells) hpk rfl rfl (by decide) (by unfold maxLen; decide)) hA5.needs hE5 (by show 3 ≤ 1000000; decide) (aw_p300 _) aw_nd).mono ?_
  rintro e w6 ⟨x, out, rfl, hch, hrow, hk6, _⟩
  obtain rfl := hch.uniq (aw_choice1 (B + 3))
  obtain ⟨_, oa, oc, rfl⟩ := hrow.len
  have hk6b := hal3.trans (hk6.mono hal3.size)
  have HRow := Lib.hid hrow
  clear hpk hE5 hA5 hch hrow
  refine hK.out _ _ (hst.on hk6b) (fun hHeld => ?_)
  clear hK K
  (try simp only [Act.put, List.getElem_toArray, List.getElem_cons_succ, List.getElem_cons_zero, List.setIfInBounds_toArray, List.set_cons_succ, List.set_cons_zero])
  refine wpAnyH_take (i := 6) (v := ?_) rfl (by kernel_rfl) (by kernel_rfl) (by kernel_rfl) (fun _ _ _ h => h) (Or.inl ⟨by kernel_rfl, ?_⟩) hHeld ?_
  rotate_left
  · (rintro W ⟨e0, e1, _⟩; go_simp; (try with_reducible rfl))
  (try simp only [Act.put, List.getElem_toArray, List.getElem_cons_succ, List.getElem_cons_zero, List.setIfInBounds_toArray, List.set_cons_succ, List.set_cons_zero])
  refine wpAnyH_done (by kernel_rfl) ?_ _
  have hS5 := hHeld
  have HB6 := Lib.hid (HW.out.trans (hS5.2.2.mono HW.out.size))
  have HA6 := Lib.hid (HA.out.on hS5.2.2)
  have q0 := hS5.1
  have q1 := hS5.2.1
  have hz5 := cell_lt q0
  have hT := (Below.refl w6.heap.size w6).alloc (Nat.le_refl _) (.cells #[.string bP, .slice (some ⟨B + 4, 0, none⟩) 3 3] 29)
  have hA7 := HA6.out.on hT
  have HTb := Lib.hid (table_as (lock := []) (needs := awNs) (ps := awPs (B + 3) (B + 4)) (pk := .slice (some ⟨w6.heap.size, 0, none⟩) 1 1) (lk := .slice none 0 0) (nv := .slice (some ⟨B + 6, 0, none⟩) 1 1) (w := w6.alloc (.cells #[.string bP, .slice (some ⟨B + 4, 0, none⟩) 3 3] 29))
    ⟨⟨row_blk (Below_heap_new w6 _) rfl rfl (by decide) (by unfold maxLen; decide), fun p hp => by simp [awPs] at hp; subst hp; exact ⟨hA7.offs, _, _, rfl⟩⟩,
     ⟨rfl, Nat.zero_le _, .inl ⟨_, _, rfl, rfl, fun _ => rfl⟩⟩, hA7.needs, HE.out.below (HB6.out.trans (hT.mono HB6.out.size)),
     fun p hp => by simp [awPs] at hp; subst hp; exact ⟨by show 3 ≤ 1000000; decide, aw_p300 _⟩,
     fun p hp => by
      simp [awPs] at hp; subst hp
      intro o ho
      have ho : o ∈ awOs (B + 3) := ho
      unfold awOs at ho
      simp only [List.mem_cons, List.not_mem_nil, or_false] at ho
      rcases ho with rfl | rfl | rfl
      · exact ⟨by show 0 ≤ 1000000; decide, fun x hx => by cases hx⟩
      · exact ⟨by show 0 ≤ 1000000; decide, fun x hx => by cases hx⟩
      · exact ⟨by show 1 ≤ 1000000; decide, fun x hx => by simp [awO] at hx; subst hx; exact Nat.zero_le _⟩,
     aw_nd, aw_names _ _, by show 2 ≤ 1000000; decide⟩)
  clear hT hA7
  go_wp2_with fail
  refine HTb.out.mono ?_
  rintro e w7 ⟨x, qs, rfl, hpq, htq, hb7, hq7⟩
  obtain ⟨hl2, hs2⟩ := two_tables (aw_table (B + 3) (B + 4)) htq
  obtain ⟨⟨n0, os0, oa0, oc0⟩, ⟨n1, os1, oa1, oc1⟩, rfl⟩ := two_of (show qs.length = 2 from hl2)
  clear hl2
  have s0 := hs2 0 (show 0 < 2 by decide) (show 0 < 2 by decide)
  have s1 := hs2 1 (show 1 < 2 by decide) (show 1 < 2 by decide)
  have hn0 : bP = n0 := s0.1
  have hl0 : os0.length = 2 := s0.2.1
  have hn1 : bQ = n1 := s1.1
  have hl1 : os1.length = 0 := s1.2.1
  have hcn := aw_count (q0 := ⟨n0, os0, oa0, oc0⟩) (q1 := ⟨n1, os1, oa1, oc1⟩) hn0 hn1 hl0 hl1
  subst hn0 hn1
  obtain ⟨_, xa, xc, rfl⟩ := hpq.len
  obtain ⟨bx, ox, rfl, hbx, g0, g1⟩ := hpq.at' (Below.refl _ _) (k := 0) (show 0 < 2 by decide)
  obtain ⟨bx', ox', hx', _, g2, _⟩ := hpq.at' (Below.refl _ _) (k := 1) (show 1 < 2 by decide)
  injection hx' with hx'
  injection hx' with hx1 hx2
  subst hx1 hx2
  simp only [List.getElem_cons_zero, List.getElem_cons_succ, Nat.zero_mul, Nat.add_zero, Nat.one_mul, DPack.ov, hl0] at g0 g1 g2
  have h67 := ((Below.refl w6.heap.size w6).alloc (Nat.le_refl _) (.cells #[.string bP, .slice (some ⟨B + 4, 0, none⟩) 3 3] 29)).trans (hb7.mono (by simp))
  have hro : ORow w6 (.slice oa 3 oc) (awOut (B + 3)) := HRow.out
  obtain ⟨bo, oo, rfl, hbo, f0, f1, f2, f3, _, _⟩ := hro.at' h67 (k := 0) (by show 0 < 3; decide)
  obtain ⟨bo1, oo1, hx1, _, e0, e1, e2, e3, _, _⟩ := hro.at' h67 (k := 1) (by show 1 < 3; decide)
  obtain ⟨bo2, oo2, hx2, _, d0, d1, d2, d3, _, _⟩ := hro.at' h67 (k := 2) (by show 2 < 3; decide)
  injection hx1 with hx1
  injection hx1 with hx3 hx4
  subst hx3 hx4
  injection hx2 with hx2
  injection hx2 with hx3 hx4
  subst hx3 hx4
  have hHeld0 : AwT bo oo bx ox (.slice oa0 2 oc0) w7.drew w7.drew := ⟨⟨f0, f1, f2, f3⟩, ⟨e0, e1, e2, e3⟩, ⟨d0, d1, d2, d3⟩, g0, g1, g2, Below.refl _ _⟩
  have HCn : Hid (∀ W, Below w7.drew.heap.size w7.drew W → Calls Tryz.prog 33 #[.slice (some ⟨bx, ox, none⟩) 2 xc, .slice (some ⟨B + 6, 0, none⟩) 1 1, .int .i64 100] W fun e w' => e = .returned (.int .i64 2) ∧ Below W.heap.size W w') := fun W hW => by
    have hbW : Below w7.heap.size w7 W := (Below.refl w7.heap.size w7).drew.trans hW
    have h := count_any (.slice (some ⟨bx, ox, none⟩) 2 xc) (.slice (some ⟨B + 6, 0, none⟩) 1 1) [⟨bP, os0, oa0, oc0⟩, ⟨bQ, os1, oa1, oc1⟩] awNs 100 W (hpq.below hbW (Nat.le_refl _)) ((HA6.out.on (h67.trans (hbW.mono h67.size))).needs) (by decide) (by decide) hq7
    rw [hcn] at h
    exact h
  have HCh : Hid (∀ W, Below w7.drew.heap.size w7.drew W → Calls Tryz.prog 32 #[.slice (some ⟨W.heap.size, 0, none⟩) 1 1] (W.alloc (.cells #[.string ⟨#[]⟩, .slice none 0 0] 35)) fun e w' => e = .returned (.int .i64 110) ∧ Below (W.alloc (.cells #[.string ⟨#[]⟩, .slice none 0 0] 35)).heap.size (W.alloc (.cells #[.string ⟨#[]⟩, .slice none 0 0] 35)) w') := fun W hW => by
    have hbW : Below w7.heap.size w7 W := (Below.refl w7.heap.size w7).drew.trans hW
    have hx := (Below.refl W.heap.size W).alloc (Nat.le_refl _) (.cells #[.string ⟨#[]⟩, .slice none 0 0] 35)
    have hEw := HE.out.below ((HB6.out.trans (h67.mono HB6.out.size)).trans ((hbW.trans (hx.mono hbW.size)).mono (Nat.le_trans HB6.out.size h67.size)))
    have h := chCheck_any (.slice (some ⟨W.heap.size, 0, none⟩) 1 1) [awN []] (W.alloc (.cells #[.string ⟨#[]⟩, .slice none 0 0] 35)) ⟨row_blk (Below_heap_new W _) rfl rfl (by decide) (by unfold maxLen; decide), fun x hx => by simp at hx; subst hx; exact rv_nil _ _⟩ hEw (fun x hx => by simp at hx; subst hx; intro b hb; cases hb)
    exact h
  have HBF := Lib.hid (HB6.out.trans (h67.mono HB6.out.size))
  have r1 := fun W => ver_eq 1 1 0 ⟨#[]⟩ 1 1 0 ⟨#[]⟩ true (by simp) W
  have r2 := fun W => ver_eq 1 2 0 ⟨#[]⟩ 1 2 0 ⟨#[]⟩ true (by simp) W
  have r3 := fun W => ver_eq 1 0 0 ⟨#[]⟩ 1 0 0 ⟨#[]⟩ true (by simp) W
  have e4 : ((⟨#[112]⟩ : ByteArray).toList == (⟨#[112]⟩ : ByteArray).toList) = true := beq_self_eq_true _
  have e5 : ((⟨#[113]⟩ : ByteArray).toList == (⟨#[113]⟩ : ByteArray).toList) = true := beq_self_eq_true _
  rw [show (awOut (B + 3)).length = 3 from rfl]
  clear f0 f1 f2 f3 e0 e1 e2 e3 d0 d1 d2 d3 g0 g1 g2 hpq htq hb7 hq7 s0 s1 hs2 hcn hro h67 hS5 hHeld hst hk6b HTb HRow HA
  go_wp2_with fail
  refine wp_region_held_drew (S := (fun W => AwT bo oo bx ox (.slice oa0 2 oc0) w7.drew W)) (by kernel_rfl) (hHeld0) (fun hHeld => ?_)
  refine wpAnyH_take (i := 0) (v := ?_) rfl (by kernel_rfl) (by kernel_rfl) (by kernel_rfl) (fun _ _ _ h => h) (Or.inl ⟨by kernel_rfl, ?_⟩) hHeld ?_
  rotate_left
  · (rintro W ⟨⟨a0, a1, a2, a3⟩, ⟨b0, b1, b2, b3⟩, ⟨c0, c1, c2, c3⟩, g0, g1, g2, _⟩; go_simp; (try with_reducible rfl))
  (try simp only [Act.put, List.getElem_toArray, List.setIfInBounds_toArray])
  refine wpAnyH_take (i := 1) (v := ?_) rfl (by kernel_rfl) (by kernel_rfl) (by kernel_rfl) (fun _ _ _ h => h) (Or.inl ⟨by kernel_rfl, ?_⟩) hHeld ?_
  rotate_left
  · (rintro W ⟨⟨a0, a1, a2, a3⟩, ⟨b0, b1, b2, b3⟩, ⟨c0, c1, c2, c3⟩, g0, g1, g2, _⟩; go_simp; (try with_reducible rfl))
  (try simp only [Act.put, List.getElem_toArray])
  refine wpAnyH_take (i := 2) (v := ?_) rfl (by kernel_rfl) (by kernel_rfl) (by kernel_rfl) (fun _ _ _ h => h) (Or.inl ⟨by kernel_rfl, ?_⟩) hHeld ?_
  rotate_left
  · (rintro W ⟨⟨a0, a1, a2, a3⟩, ⟨b0, b1, b2, b3⟩, ⟨c0, c1, c2, c3⟩, g0, g1, g2, _⟩; go_simp; (try with_reducible rfl))
  (try simp only [Act.put, List.getElem_toArray])
  refine wpAnyH_take (i := 3) (v := ?_) rfl (by kernel_rfl) (by kernel_rfl) (by kernel_rfl) (fun _ _ _ h => h) (Or.inl ⟨by kernel_rfl, ?_⟩) hHeld ?_
  rotate_left
  · (rintro W ⟨⟨a0, a1, a2, a3⟩, ⟨b0, b1, b2, b3⟩, ⟨c0, c1, c2, c3⟩, g0, g1, g2, _⟩; go_simp; (try with_reducible rfl))
  (try simp only [Act.put, List.getElem_toArray])
  refine wpAnyH_take (i := 4) (v := ?_) rfl (by kernel_rfl) (by kernel_rfl) (by kernel_rfl) (fun _ _ _ h => h) (Or.inl ⟨by kernel_rfl, ?_⟩) hHeld ?_
  rotate_left
  · (rintro W ⟨⟨a0, a1, a2, a3⟩, ⟨b0, b1, b2, b3⟩, ⟨c0, c1, c2, c3⟩, g0, g1, g2, _⟩; go_simp; (try with_reducible rfl))
  (try simp only [Act.put, List.getElem_toArray])
  refine wpAnyH_take (i := 5) (v := ?_) rfl (by kernel_rfl) (by kernel_rfl) (by kernel_rfl) (fun _ _ _ h => h) (Or.inl ⟨by kernel_rfl, ?_⟩) hHeld ?_
  rotate_left
  · (rintro W ⟨⟨a0, a1, a2, a3⟩, ⟨b0, b1, b2, b3⟩, ⟨c0, c1, c2, c3⟩, g0, g1, g2, _⟩; go_simp; (try with_reducible rfl))
  (try simp only [Act.put, List.getElem_toArray])
  refine wpAnyH_take (i := 6) (v := ?_) rfl (by kernel_rfl) (by kernel_rfl) (by kernel_rfl) (fun _ _ _ h => h) (Or.inl ⟨by kernel_rfl, ?_⟩) hHeld ?_
  rotate_left
  · (rintro W ⟨⟨a0, a1, a2, a3⟩, ⟨b0, b1, b2, b3⟩, ⟨c0, c1, c2, c3⟩, g0, g1, g2, _⟩; go_simp; (try with_reducible rfl))
  (try simp only [Act.put, List.getElem_toArray])
  refine wpAnyH_take (i := 7) (v := ?_) rfl (by kernel_rfl) (by kernel_rfl) (by kernel_rfl) (fun _ _ _ h => h) (Or.inl ⟨by kernel_rfl, ?_⟩) hHeld ?_
  rotate_left
  · (rintro W ⟨⟨a0, a1, a2, a3⟩, ⟨b0, b1, b2, b3⟩, ⟨c0, c1, c2, c3⟩, g0, g1, g2, _⟩; go_simp; (try with_reducible rfl))
  (try simp only [Act.put, List.getElem_toArray])
  refine wpAnyH_ready (rs := [8]) (by kernel_rfl) (by simp) ?_
  refine AllReadyH.cons rfl (fun K hK => ?_) AllReadyH.nil
  go_simp
  refine (v_as 1 _).mono ?_
  rintro e w8 ⟨rfl, rfl⟩
  refine hK.out _ _ (hHeld.on ((Below.refl _ _).alloc (Nat.le_refl _) _)) (fun hHeld => ?_)
  clear hK K
  (try simp only [Act.put, List.getElem_toArray])
  refine wpAnyH_take (i := 9) (v := ?_) rfl (by kernel_rfl) (by kernel_rfl) (by kernel_rfl) (fun _ _ _ h => h) (Or.inl ⟨by kernel_rfl, ?_⟩) hHeld ?_
  rotate_left
  · (rintro W ⟨⟨a0, a1, a2, a3⟩, ⟨b0, b1, b2, b3⟩, ⟨c0, c1, c2, c3⟩, g0, g1, g2, _⟩; go_simp; (try with_reducible rfl))
  (try simp only [Act.put, List.getElem_toArray])
  refine wpAnyH_take (i := 10) (v := ?_) rfl (by kernel_rfl) (by kernel_rfl) (by kernel_rfl) (fun _ _ _ h => h) (Or.inl ⟨by kernel_rfl, ?_⟩) hHeld ?_
  rotate_left
  · (rintro W ⟨⟨a0, a1, a2, a3⟩, ⟨b0, b1, b2, b3⟩, ⟨c0, c1, c2, c3⟩, g0, g1, g2, _⟩; go_simp; (try with_reducible rfl))
  (try simp only [Act.put, List.getElem_toArray])
  refine wpAnyH_take (i := 11) (v := ?_) rfl (by kernel_rfl) (by kernel_rfl) (by kernel_rfl) (fun _ _ _ h => h) (Or.inl ⟨by kernel_rfl, ?_⟩) hHeld ?_
  rotate_left
  · (rintro W ⟨⟨a0, a1, a2, a3⟩, ⟨b0, b1, b2, b3⟩, ⟨c0, c1, c2, c3⟩, g0, g1, g2, _⟩; go_simp; (try with_reducible rfl))
  (try simp only [Act.put, List.getElem_toArray])
  refine wpAnyH_take (i := 12) (v := ?_) rfl (by kernel_rfl) (by kernel_rfl) (by kernel_rfl) (fun _ _ _ h => h) (Or.inl ⟨by kernel_rfl, ?_⟩) hHeld ?_
  rotate_left
  · (rintro W ⟨⟨a0, a1, a2, a3⟩, ⟨b0, b1, b2, b3⟩, ⟨c0, c1, c2, c3⟩, g0, g1, g2, _⟩; go_simp; (try with_reducible rfl))
  (try simp only [Act.put, List.getElem_toArray])
  refine wpAnyH_take (i := 13) (v := ?_) rfl (by kernel_rfl) (by kernel_rfl) (by kernel_rfl) (fun _ _ _ h => h) (Or.inl ⟨by kernel_rfl, ?_⟩) hHeld ?_
  rotate_left
  · (rintro W ⟨⟨a0, a1, a2, a3⟩, ⟨b0, b1, b2, b3⟩, ⟨c0, c1, c2, c3⟩, g0, g1, g2, _⟩; go_simp; (try with_reducible rfl))
  (try simp only [Act.put, List.getElem_toArray])
  refine wpAnyH_take (i := 14) (v := ?_) rfl (by kernel_rfl) (by kernel_rfl) (by kernel_rfl) (fun _ _ _ h => h) (Or.inl ⟨by kernel_rfl, ?_⟩) hHeld ?_
  rotate_left
  · (rintro W ⟨⟨a0, a1, a2, a3⟩, ⟨b0, b1, b2, b3⟩, ⟨c0, c1, c2, c3⟩, g0, g1, g2, _⟩; go_simp; (try with_reducible rfl))
  (try simp only [Act.put, List.getElem_toArray])
  refine wpAnyH_take (i := 15) (v := ?_) rfl (by kernel_rfl) (by kernel_rfl) (by kernel_rfl) (fun _ _ _ h => h) (Or.inl ⟨by kernel_rfl, ?_⟩) hHeld ?_
  rotate_left
  · (rintro W ⟨⟨a0, a1, a2, a3⟩, ⟨b0, b1, b2, b3⟩, ⟨c0, c1, c2, c3⟩, g0, g1, g2, _⟩; go_simp; (try with_reducible rfl))
  (try simp only [Act.put, List.getElem_toArray])
  refine wpAnyH_ready (rs := [16]) (by kernel_rfl) (by simp) ?_
  refine AllReadyH.cons rfl (fun K hK => ?_) AllReadyH.nil
  go_simp
  refine (v_as 2 _).mono ?_
  rintro e w8 ⟨rfl, rfl⟩
  refine hK.out _ _ (hHeld.on ((Below.refl _ _).alloc (Nat.le_refl _) _)) (fun hHeld => ?_)
  clear hK K
  (try simp only [Act.put, List.getElem_toArray])
  refine wpAnyH_take (i := 17) (v := ?_) rfl (by kernel_rfl) (by kernel_rfl) (by kernel_rfl) (fun _ _ _ h => h) (Or.inl ⟨by kernel_rfl, ?_⟩) hHeld ?_
  rotate_left
  · (rintro W ⟨⟨a0, a1, a2, a3⟩, ⟨b0, b1, b2, b3⟩, ⟨c0, c1, c2, c3⟩, g0, g1, g2, _⟩; go_simp; (try with_reducible rfl))
  (try simp only [Act.put, List.getElem_toArray])
  refine wpAnyH_take (i := 18) (v := ?_) rfl (by kernel_rfl) (by kernel_rfl) (by kernel_rfl) (fun _ _ _ h => h) (Or.inl ⟨by kernel_rfl, ?_⟩) hHeld ?_
  rotate_left
  · (rintro W ⟨⟨a0, a1, a2, a3⟩, ⟨b0, b1, b2, b3⟩, ⟨c0, c1, c2, c3⟩, g0, g1, g2, _⟩; go_simp; (try with_reducible rfl))
  (try simp only [Act.put, List.getElem_toArray])
  refine wpAnyH_take (i := 19) (v := ?_) rfl (by kernel_rfl) (by kernel_rfl) (by kernel_rfl) (fun _ _ _ h => h) (Or.inl ⟨by kernel_rfl, ?_⟩) hHeld ?_
  rotate_left
  · (rintro W ⟨⟨a0, a1, a2, a3⟩, ⟨b0, b1, b2, b3⟩, ⟨c0, c1, c2, c3⟩, g0, g1, g2, _⟩; go_simp; (try with_reducible rfl))
  (try simp only [Act.put, List.getElem_toArray])
  refine wpAnyH_take (i := 20) (v := ?_) rfl (by kernel_rfl) (by kernel_rfl) (by kernel_rfl) (fun _ _ _ h => h) (Or.inl ⟨by kernel_rfl, ?_⟩) hHeld ?_
  rotate_left
  · (rintro W ⟨⟨a0, a1, a2, a3⟩, ⟨b0, b1, b2, b3⟩, ⟨c0, c1, c2, c3⟩, g0, g1, g2, _⟩; go_simp; (try with_reducible rfl))
  (try simp only [Act.put, List.getElem_toArray])
  refine wpAnyH_take (i := 21) (v := ?_) rfl (by kernel_rfl) (by kernel_rfl) (by kernel_rfl) (fun _ _ _ h => h) (Or.inl ⟨by kernel_rfl, ?_⟩) hHeld ?_
  rotate_left
  · (rintro W ⟨⟨a0, a1, a2, a3⟩, ⟨b0, b1, b2, b3⟩, ⟨c0, c1, c2, c3⟩, g0, g1, g2, _⟩; go_simp; (try with_reducible rfl))
  (try simp only [Act.put, List.getElem_toArray])
  refine wpAnyH_take (i := 22) (v := ?_) rfl (by kernel_rfl) (by kernel_rfl) (by kernel_rfl) (fun _ _ _ h => h) (Or.inl ⟨by kernel_rfl, ?_⟩) hHeld ?_
  rotate_left
  · (rintro W ⟨⟨a0, a1, a2, a3⟩, ⟨b0, b1, b2, b3⟩, ⟨c0, c1, c2, c3⟩, g0, g1, g2, _⟩; go_simp; (try with_reducible rfl))
  (try simp only [Act.put, List.getElem_toArray])
  refine wpAnyH_take (i := 23) (v := ?_) rfl (by kernel_rfl) (by kernel_rfl) (by kernel_rfl) (fun _ _ _ h => h) (Or.inl ⟨by kernel_rfl, ?_⟩) hHeld ?_
  rotate_left
  · (rintro W ⟨⟨a0, a1, a2, a3⟩, ⟨b0, b1, b2, b3⟩, ⟨c0, c1, c2, c3⟩, g0, g1, g2, _⟩; go_simp; (try with_reducible rfl))
  (try simp only [Act.put, List.getElem_toArray])
  refine wpAnyH_ready (rs := [24]) (by kernel_rfl) (by simp) ?_
  refine AllReadyH.cons rfl (fun K hK => ?_) AllReadyH.nil
  go_simp
  refine (v_as 0 _).mono ?_
  rintro e w8 ⟨rfl, rfl⟩
  refine hK.out _ _ (hHeld.on ((Below.refl _ _).alloc (Nat.le_refl _) _)) (fun hHeld => ?_)
  clear hK K
  (try simp only [Act.put, List.getElem_toArray])
  refine wpAnyH_take (i := 25) (v := ?_) rfl (by kernel_rfl) (by kernel_rfl) (by kernel_rfl) (fun _ _ _ h => h) (Or.inl ⟨by kernel_rfl, ?_⟩) hHeld ?_
  rotate_left
  · (rintro W ⟨⟨a0, a1, a2, a3⟩, ⟨b0, b1, b2, b3⟩, ⟨c0, c1, c2, c3⟩, g0, g1, g2, _⟩; go_simp; (try with_reducible rfl))
  (try simp only [Act.put, List.getElem_toArray])
  refine wpAnyH_take (i := 26) (v := ?_) rfl (by kernel_rfl) (by kernel_rfl) (by kernel_rfl) (fun _ _ _ h => h) (Or.inl ⟨by kernel_rfl, ?_⟩) hHeld ?_
  rotate_left
  · (rintro W ⟨⟨a0, a1, a2, a3⟩, ⟨b0, b1, b2, b3⟩, ⟨c0, c1, c2, c3⟩, g0, g1, g2, _⟩; go_simp; (try with_reducible rfl))
  (try simp only [Act.put, List.getElem_toArray])
  refine wpAnyH_take (i := 27) (v := ?_) rfl (by kernel_rfl) (by kernel_rfl) (by kernel_rfl) (fun _ _ _ h => h) (Or.inl ⟨by kernel_rfl, ?_⟩) hHeld ?_
  rotate_left
  · (rintro W ⟨⟨a0, a1, a2, a3⟩, ⟨b0, b1, b2, b3⟩, ⟨c0, c1, c2, c3⟩, g0, g1, g2, _⟩; go_simp; (try with_reducible rfl))
  (try simp only [Act.put, List.getElem_toArray])
  refine wpAnyH_take (i := 28) (v := ?_) rfl (by kernel_rfl) (by kernel_rfl) (by kernel_rfl) (fun _ _ _ h => h) (Or.inl ⟨by kernel_rfl, ?_⟩) hHeld ?_
  rotate_left
  · (rintro W ⟨⟨a0, a1, a2, a3⟩, ⟨b0, b1, b2, b3⟩, ⟨c0, c1, c2, c3⟩, g0, g1, g2, _⟩; go_simp; (try with_reducible rfl))
  (try simp only [Act.put, List.getElem_toArray])
  refine wpAnyH_take (i := 29) (v := ?_) rfl (by kernel_rfl) (by kernel_rfl) (by kernel_rfl) (fun _ _ _ h => h) (Or.inl ⟨by kernel_rfl, ?_⟩) hHeld ?_
  rotate_left
  · (rintro W ⟨⟨a0, a1, a2, a3⟩, ⟨b0, b1, b2, b3⟩, ⟨c0, c1, c2, c3⟩, g0, g1, g2, _⟩; go_simp; (try with_reducible rfl))
  (try simp only [Act.put, List.getElem_toArray])
  refine wpAnyH_take (i := 30) (v := ?_) rfl (by kernel_rfl) (by kernel_rfl) (by kernel_rfl) (fun _ _ _ h => h) (Or.inl ⟨by kernel_rfl, ?_⟩) hHeld ?_
  rotate_left
  · (rintro W ⟨⟨a0, a1, a2, a3⟩, ⟨b0, b1, b2, b3⟩, ⟨c0, c1, c2, c3⟩, g0, g1, g2, _⟩; go_simp; (try with_reducible rfl))
  (try simp only [Act.put, List.getElem_toArray])
  refine wpAnyH_take (i := 31) (v := ?_) rfl (by kernel_rfl) (by kernel_rfl) (by kernel_rfl) (fun _ _ _ h => h) (Or.inl ⟨by kernel_rfl, ?_⟩) hHeld ?_
  rotate_left
  · (rintro W ⟨⟨a0, a1, a2, a3⟩, ⟨b0, b1, b2, b3⟩, ⟨c0, c1, c2, c3⟩, g0, g1, g2, _⟩; go_simp; (try with_reducible rfl))
  (try simp only [Act.put, List.getElem_toArray])
  refine wpAnyH_take (i := 32) (v := ?_) rfl (by kernel_rfl) (by kernel_rfl) (by kernel_rfl) (fun _ _ _ h => h) (Or.inl ⟨by kernel_rfl, ?_⟩) hHeld ?_
  rotate_left
  · (rintro W ⟨⟨a0, a1, a2, a3⟩, ⟨b0, b1, b2, b3⟩, ⟨c0, c1, c2, c3⟩, g0, g1, g2, _⟩; go_simp; (try with_reducible rfl))
  (try simp only [Act.put, List.getElem_toArray])
  refine wpAnyH_take (i := 33) (v := ?_) rfl (by kernel_rfl) (by kernel_rfl) (by kernel_rfl) (fun _ _ _ h => h) (Or.inl ⟨by kernel_rfl, ?_⟩) hHeld ?_
  rotate_left
  · (rintro W ⟨⟨a0, a1, a2, a3⟩, ⟨b0, b1, b2, b3⟩, ⟨c0, c1, c2, c3⟩, g0, g1, g2, _⟩; go_simp; (try with_reducible rfl))
  (try simp only [Act.put, List.getElem_toArray])
  refine wpAnyH_take (i := 34) (v := ?_) rfl (by kernel_rfl) (by kernel_rfl) (by kernel_rfl) (fun _ _ _ h => h) (Or.inl ⟨by kernel_rfl, ?_⟩) hHeld ?_
  rotate_left
  · (rintro W ⟨⟨a0, a1, a2, a3⟩, ⟨b0, b1, b2, b3⟩, ⟨c0, c1, c2, c3⟩, g0, g1, g2, _⟩; go_simp; (try with_reducible rfl))
  (try simp only [Act.put, List.getElem_toArray])
  refine wpAnyH_take (i := 35) (v := ?_) rfl (by kernel_rfl) (by kernel_rfl) (by kernel_rfl) (fun _ _ _ h => h) (Or.inl ⟨by kernel_rfl, ?_⟩) hHeld ?_
  rotate_left
  · (rintro W ⟨⟨a0, a1, a2, a3⟩, ⟨b0, b1, b2, b3⟩, ⟨c0, c1, c2, c3⟩, g0, g1, g2, _⟩; go_simp; (try with_reducible rfl))
  (try simp only [Act.put, List.getElem_toArray])
  refine wpAnyH_take (i := 36) (v := ?_) rfl (by kernel_rfl) (by kernel_rfl) (by kernel_rfl) (fun _ _ _ h => h) (Or.inl ⟨by kernel_rfl, ?_⟩) hHeld ?_
  rotate_left
  · (rintro W ⟨⟨a0, a1, a2, a3⟩, ⟨b0, b1, b2, b3⟩, ⟨c0, c1, c2, c3⟩, g0, g1, g2, _⟩; go_simp; (try with_reducible rfl))
  (try simp only [Act.put, List.getElem_toArray])
  refine wpAnyH_take (i := 37) (v := ?_) rfl (by kernel_rfl) (by kernel_rfl) (by kernel_rfl) (fun _ _ _ h => h) (Or.inl ⟨by kernel_rfl, ?_⟩) hHeld ?_
  rotate_left
  · (rintro W ⟨⟨a0, a1, a2, a3⟩, ⟨b0, b1, b2, b3⟩, ⟨c0, c1, c2, c3⟩, g0, g1, g2, _⟩; go_simp; (try with_reducible rfl))
  (try simp only [Act.put, List.getElem_toArray])
  refine wpAnyH_take (i := 38) (v := ?_) rfl (by kernel_rfl) (by kernel_rfl) (by kernel_rfl) (fun _ _ _ h => h) (Or.inl ⟨by kernel_rfl, ?_⟩) hHeld ?_
  rotate_left
  · (rintro W ⟨⟨a0, a1, a2, a3⟩, ⟨b0, b1, b2, b3⟩, ⟨c0, c1, c2, c3⟩, g0, g1, g2, _⟩; go_simp; (try with_reducible rfl))
  (try simp only [Act.put, List.getElem_toArray])
  refine wpAnyH_take (i := 39) (v := ?_) rfl (by kernel_rfl) (by kernel_rfl) (by kernel_rfl) (fun _ _ _ h => h) (Or.inl ⟨by kernel_rfl, ?_⟩) hHeld ?_
  rotate_left
  · (rintro W ⟨⟨a0, a1, a2, a3⟩, ⟨b0, b1, b2, b3⟩, ⟨c0, c1, c2, c3⟩, g0, g1, g2, _⟩; go_simp; (try with_reducible rfl))
  (try simp only [Act.put, List.getElem_toArray])
  refine wpAnyH_take (i := 40) (v := ?_) rfl (by kernel_rfl) (by kernel_rfl) (by kernel_rfl) (fun _ _ _ h => h) (Or.inl ⟨by kernel_rfl, ?_⟩) hHeld ?_
  rotate_left
  · (rintro W ⟨⟨a0, a1, a2, a3⟩, ⟨b0, b1, b2, b3⟩, ⟨c0, c1, c2, c3⟩, g0, g1, g2, _⟩; go_simp; (try with_reducible rfl))
  (try simp only [Act.put, List.getElem_toArray])
  refine wpAnyH_take (i := 41) (v := ?_) rfl (by kernel_rfl) (by kernel_rfl) (by kernel_rfl) (fun _ _ _ h => h) (Or.inl ⟨by kernel_rfl, ?_⟩) hHeld ?_
  rotate_left
  · (rintro W ⟨⟨a0, a1, a2, a3⟩, ⟨b0, b1, b2, b3⟩, ⟨c0, c1, c2, c3⟩, g0, g1, g2, _⟩; go_simp; (try with_reducible rfl))
  (try simp only [Act.put, List.getElem_toArray])
  refine wpAnyH_take (i := 42) (v := ?_) rfl (by kernel_rfl) (by kernel_rfl) (by kernel_rfl) (fun _ _ _ h => h) (Or.inl ⟨by kernel_rfl, ?_⟩) hHeld ?_
  rotate_left
  · (rintro W ⟨⟨a0, a1, a2, a3⟩, ⟨b0, b1, b2, b3⟩, ⟨c0, c1, c2, c3⟩, g0, g1, g2, _⟩; go_simp; (try with_reducible rfl))
  (try simp only [Act.put, List.getElem_toArray])
  refine wpAnyH_take (i := 43) (v := ?_) rfl (by kernel_rfl) (by kernel_rfl) (by kernel_rfl) (fun _ _ _ h => h) (Or.inl ⟨by kernel_rfl, ?_⟩) hHeld ?_
  rotate_left
  · (rintro W ⟨⟨a0, a1, a2, a3⟩, ⟨b0, b1, b2, b3⟩, ⟨c0, c1, c2, c3⟩, g0, g1, g2, _⟩; go_simp; (try with_reducible rfl))
  (try simp only [Act.put, List.getElem_toArray])
  refine wpAnyH_take (i := 44) (v := ?_) rfl (by kernel_rfl) (by kernel_rfl) (by kernel_rfl) (fun _ _ _ h => h) (Or.inl ⟨by kernel_rfl, ?_⟩) hHeld ?_
  rotate_left
  · (rintro W ⟨⟨a0, a1, a2, a3⟩, ⟨b0, b1, b2, b3⟩, ⟨c0, c1, c2, c3⟩, g0, g1, g2, _⟩; go_simp; (try with_reducible rfl))
  (try simp only [Act.put, List.getElem_toArray])
  refine wpAnyH_take (i := 45) (v := ?_) rfl (by kernel_rfl) (by kernel_rfl) (by kernel_rfl) (fun _ _ _ h => h) (Or.inl ⟨by kernel_rfl, ?_⟩) hHeld ?_
  rotate_left
  · (rintro W ⟨⟨a0, a1, a2, a3⟩, ⟨b0, b1, b2, b3⟩, ⟨c0, c1, c2, c3⟩, g0, g1, g2, _⟩; go_simp; (try with_reducible rfl))
  (try simp only [Act.put, List.getElem_toArray])
  refine wpAnyH_take (i := 46) (v := ?_) rfl (by kernel_rfl) (by kernel_rfl) (by kernel_rfl) (fun _ _ _ h => h) (Or.inl ⟨by kernel_rfl, ?_⟩) hHeld ?_
  rotate_left
  · (rintro W ⟨⟨a0, a1, a2, a3⟩, ⟨b0, b1, b2, b3⟩, ⟨c0, c1, c2, c3⟩, g0, g1, g2, _⟩; go_simp; (try with_reducible rfl))
  (try simp only [Act.put, List.getElem_toArray])
  refine wpAnyH_take (i := 47) (v := ?_) rfl (by kernel_rfl) (by kernel_rfl) (by kernel_rfl) (fun _ _ _ h => h) (Or.inl ⟨by kernel_rfl, ?_⟩) hHeld ?_
  rotate_left
  · (rintro W ⟨⟨a0, a1, a2, a3⟩, ⟨b0, b1, b2, b3⟩, ⟨c0, c1, c2, c3⟩, g0, g1, g2, _⟩; go_simp; (try with_reducible rfl))
  (try simp only [Act.put, List.getElem_toArray])
  refine wpAnyH_take (i := 48) (v := ?_) rfl (by kernel_rfl) (by kernel_rfl) (by kernel_rfl) (fun _ _ _ h => h) (Or.inl ⟨by kernel_rfl, ?_⟩) hHeld ?_
  rotate_left
  · (rintro W ⟨⟨a0, a1, a2, a3⟩, ⟨b0, b1, b2, b3⟩, ⟨c0, c1, c2, c3⟩, g0, g1, g2, _⟩; go_simp; (try with_reducible rfl))
  (try simp only [Act.put, List.getElem_toArray])
  refine wpAnyH_take (i := 49) (v := ?_) rfl (by kernel_rfl) (by kernel_rfl) (by kernel_rfl) (fun _ _ _ h => h) (Or.inl ⟨by kernel_rfl, ?_⟩) hHeld ?_
  rotate_left
  · (rintro W ⟨⟨a0, a1, a2, a3⟩, ⟨b0, b1, b2, b3⟩, ⟨c0, c1, c2, c3⟩, g0, g1, g2, _⟩; go_simp; (try with_reducible rfl))
  (try simp only [Act.put, List.getElem_toArray])
  refine wpAnyH_take (i := 50) (v := ?_) rfl (by kernel_rfl) (by kernel_rfl) (by kernel_rfl) (fun _ _ _ h => h) (Or.inl ⟨by kernel_rfl, ?_⟩) hHeld ?_
  rotate_left
  · (rintro W ⟨⟨a0, a1, a2, a3⟩, ⟨b0, b1, b2, b3⟩, ⟨c0, c1, c2, c3⟩, g0, g1, g2, _⟩; go_simp; (try with_reducible rfl))
  (try simp only [Act.put, List.getElem_toArray])
  refine wpAnyH_take (i := 51) (v := ?_) rfl (by kernel_rfl) (by kernel_rfl) (by kernel_rfl) (fun _ _ _ h => h) (Or.inl ⟨by kernel_rfl, ?_⟩) hHeld ?_
  rotate_left
  · (rintro W ⟨⟨a0, a1, a2, a3⟩, ⟨b0, b1, b2, b3⟩, ⟨c0, c1, c2, c3⟩, g0, g1, g2, _⟩; go_simp; (try with_reducible rfl))
  (try simp only [Act.put, List.getElem_toArray])
  refine wpAnyH_take (i := 52) (v := ?_) rfl (by kernel_rfl) (by kernel_rfl) (by kernel_rfl) (fun _ _ _ h => h) (Or.inl ⟨by kernel_rfl, ?_⟩) hHeld ?_
  rotate_left
  · (rintro W ⟨⟨a0, a1, a2, a3⟩, ⟨b0, b1, b2, b3⟩, ⟨c0, c1, c2, c3⟩, g0, g1, g2, _⟩; go_simp; (try with_reducible rfl))
  (try simp only [Act.put, List.getElem_toArray])
  refine wpAnyH_take (i := 53) (v := ?_) rfl (by kernel_rfl) (by kernel_rfl) (by kernel_rfl) (fun _ _ _ h => h) (Or.inl ⟨by kernel_rfl, ?_⟩) hHeld ?_
  rotate_left
  · (rintro W ⟨⟨a0, a1, a2, a3⟩, ⟨b0, b1, b2, b3⟩, ⟨c0, c1, c2, c3⟩, g0, g1, g2, _⟩; go_simp; (try with_reducible rfl))
  (try simp only [Act.put, List.getElem_toArray])
  refine wpAnyH_take (i := 54) (v := ?_) rfl (by kernel_rfl) (by kernel_rfl) (by kernel_rfl) (fun _ _ _ h => h) (Or.inl ⟨by kernel_rfl, ?_⟩) hHeld ?_
  rotate_left
  · (rintro W ⟨⟨a0, a1, a2, a3⟩, ⟨b0, b1, b2, b3⟩, ⟨c0, c1, c2, c3⟩, g0, g1, g2, _⟩; go_simp; (try with_reducible rfl))
  (try simp only [Act.put, List.getElem_toArray])
  refine wpAnyH_take (i := 55) (v := ?_) rfl (by kernel_rfl) (by kernel_rfl) (by kernel_rfl) (fun _ _ _ h => h) (Or.inl ⟨by kernel_rfl, ?_⟩) hHeld ?_
  rotate_left
  · (rintro W ⟨⟨a0, a1, a2, a3⟩, ⟨b0, b1, b2, b3⟩, ⟨c0, c1, c2, c3⟩, g0, g1, g2, _⟩; go_simp; (try with_reducible rfl))
  (try simp only [Act.put, List.getElem_toArray])
  refine wpAnyH_take (i := 56) (v := ?_) rfl (by kernel_rfl) (by kernel_rfl) (by kernel_rfl) (fun _ _ _ h => h) (Or.inl ⟨by kernel_rfl, ?_⟩) hHeld ?_
  rotate_left
  · (rintro W ⟨⟨a0, a1, a2, a3⟩, ⟨b0, b1, b2, b3⟩, ⟨c0, c1, c2, c3⟩, g0, g1, g2, _⟩; go_simp; (try with_reducible rfl))
  (try simp only [Act.put, List.getElem_toArray])
  refine wpAnyH_ready (rs := [57]) (by kernel_rfl) (by simp) ?_
  refine AllReadyH.cons rfl (fun K hK => ?_) AllReadyH.nil
  go_simp
  refine (HCn.out _ hHeld.2.2.2.2.2.2).mono ?_
  rintro e w9 ⟨rfl, hk9⟩
  refine hK.out _ _ (hHeld.on hk9) (fun hHeld => ?_)
  clear hK K
  (try simp only [Act.put, List.getElem_toArray])
  refine wpAnyH_take (i := 58) (v := ?_) rfl (by kernel_rfl) (by kernel_rfl) (by kernel_rfl) (fun _ _ _ h => h) (Or.inl ⟨by kernel_rfl, ?_⟩) hHeld ?_
  rotate_left
  · (rintro W ⟨⟨a0, a1, a2, a3⟩, ⟨b0, b1, b2, b3⟩, ⟨c0, c1, c2, c3⟩, g0, g1, g2, _⟩; go_simp; (try with_reducible rfl))
  (try simp only [Act.put, List.getElem_toArray])
  refine wpAnyH_take (i := 59) (v := ?_) rfl (by kernel_rfl) (by kernel_rfl) (by kernel_rfl) (fun _ _ _ h => h) (Or.inl ⟨by kernel_rfl, ?_⟩) hHeld ?_
  rotate_left
  · (rintro W ⟨⟨a0, a1, a2, a3⟩, ⟨b0, b1, b2, b3⟩, ⟨c0, c1, c2, c3⟩, g0, g1, g2, _⟩; go_simp; (try with_reducible rfl))
  (try simp only [Act.put, List.getElem_toArray])
  refine wpAnyH_take (i := 60) (v := ?_) rfl (by kernel_rfl) (by kernel_rfl) (by kernel_rfl) (fun _ _ _ h => h) (Or.inl ⟨by kernel_rfl, ?_⟩) hHeld ?_
  rotate_left
  · (rintro W ⟨⟨a0, a1, a2, a3⟩, ⟨b0, b1, b2, b3⟩, ⟨c0, c1, c2, c3⟩, g0, g1, g2, _⟩; go_simp; (try with_reducible rfl))
  (try simp only [Act.put, List.getElem_toArray])
  refine wpAnyH_take (i := 61) (v := ?_) rfl (by kernel_rfl) (by kernel_rfl) (by kernel_rfl) (fun _ _ _ h => h) (Or.inl ⟨by kernel_rfl, ?_⟩) hHeld ?_
  rotate_left
  · (rintro W ⟨⟨a0, a1, a2, a3⟩, ⟨b0, b1, b2, b3⟩, ⟨c0, c1, c2, c3⟩, g0, g1, g2, _⟩; go_simp; (try with_reducible rfl))
  (try simp only [Act.put, List.getElem_toArray])
  refine wpAnyH_ready (rs := [62]) (by kernel_rfl) (by simp) ?_
  refine AllReadyH.cons rfl (fun K hK => ?_) AllReadyH.nil
  go_simp
  have hHeld9 := hHeld
  refine hK.out _ _ (hHeld.on ((Below.refl _ _).alloc (Nat.le_refl _) _)) (fun hHeld => ?_)
  clear hK K
  (try simp only [Act.put, List.getElem_toArray])
  refine wpAnyH_ready (rs := [63]) (by kernel_rfl) (by simp) ?_
  refine AllReadyH.cons rfl (fun K hK => ?_) AllReadyH.nil
  go_simp
  refine (HCh.out _ hHeld9.2.2.2.2.2.2).mono ?_
  rintro e w10 ⟨rfl, hk10⟩
  refine hK.out _ _ (hHeld.on hk10) (fun hHeld => ?_)
  clear hK K
  (try simp only [Act.put, List.getElem_toArray])
  refine wpAnyH_take (i := 64) (v := ?_) rfl (by kernel_rfl) (by kernel_rfl) (by kernel_rfl) (fun _ _ _ h => h) (Or.inl ⟨by kernel_rfl, ?_⟩) hHeld ?_
  rotate_left
  · (rintro W ⟨⟨a0, a1, a2, a3⟩, ⟨b0, b1, b2, b3⟩, ⟨c0, c1, c2, c3⟩, g0, g1, g2, _⟩; go_simp; (try with_reducible rfl))
  (try simp only [Act.put, List.getElem_toArray])
  refine wpAnyH_take (i := 65) (v := ?_) rfl (by kernel_rfl) (by kernel_rfl) (by kernel_rfl) (fun _ _ _ h => h) (Or.inl ⟨by kernel_rfl, ?_⟩) hHeld ?_
  rotate_left
  · (rintro W ⟨⟨a0, a1, a2, a3⟩, ⟨b0, b1, b2, b3⟩, ⟨c0, c1, c2, c3⟩, g0, g1, g2, _⟩; go_simp; (try with_reducible rfl))
  (try simp only [Act.put, List.getElem_toArray])
  refine wpAnyH_take (i := 66) (v := ?_) rfl (by kernel_rfl) (by kernel_rfl) (by kernel_rfl) (fun _ _ _ h => h) (Or.inl ⟨by kernel_rfl, ?_⟩) hHeld ?_
  rotate_left
  · (rintro W ⟨⟨a0, a1, a2, a3⟩, ⟨b0, b1, b2, b3⟩, ⟨c0, c1, c2, c3⟩, g0, g1, g2, _⟩; go_simp; (try with_reducible rfl))
  (try simp only [Act.put, List.getElem_toArray])
  refine wpAnyH_done (by kernel_rfl) ?_ _
  have hfin := HBF.out.trans (((Below.refl w7.heap.size w7).drew.trans hHeld.2.2.2.2.2.2).mono HBF.out.size)
  go_wp2_with fail
  rename_i o1 d1 q1 o2 d2 q2
  have u1 := (Eq.symm (by kernel_rfl : _ = some 0)).trans q1
  have u2 := (Eq.symm (by kernel_rfl : _ = some 92)).trans q2
  clear q1 q2 o1 o2
  injection u1 with u1
  injection u2 with u2
  subst u1 u2
  exact bodyPost_ret (v := .bool true) (by first | rfl | kernel_rfl | (simp [results, Tryz.results17, go_sem]; done)) rfl ⟨rfl, by first | exact hfin | (rw [← hB]; exact hfin)⟩
end Go.Proofs.YtllkiedikjgkbaaGreatDoor
