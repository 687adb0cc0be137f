/- Solve: what the laws' probe comes to: plain. -/
import Derived.Test.YtllkiedikjgkbaaGreatDoorSolPlains
namespace Go
open Go.RowKit
def yP : ByteArray := ⟨#[112]⟩
def yQ : ByteArray := ⟨#[113]⟩
def yZ : ByteArray := ⟨#[122]⟩
def yV (m : Int) : V4 := ⟨1, m, 0, ⟨#[]⟩⟩
def yFar : List Bnd := [⟨4, ⟨2, 0, 0, ⟨#[]⟩⟩⟩]
/-- a need of a name alone -/
def yN (n : Nam) : Want × Value := (⟨n, []⟩, .slice none 0 0)
/-- the far need; 'b': where its range lies -/
def yF (b : Nat) : Want × Value := (⟨[113], yFar⟩, .slice (some ⟨b, 0, none⟩) 1 1)
def yO0 : DOff := ⟨yV 0, false, [], none, 0⟩
def yO1 (b : Nat) : DOff := ⟨yV 1, false, [yF b], some ⟨b + 1, 0, none⟩, 1⟩
def yNs : List (Want × Value) := [yN [112]]
def yZs : List (Want × Value) := [yN [122]]
def yPs (b : Nat) : List DPack := [⟨yP, [yO0, yO1 b], some ⟨b + 2, 0, none⟩, 2⟩, ⟨yQ, [yO0], some ⟨b + 3, 0, none⟩, 1⟩]
def yTs (b : Nat) : List DPack := [⟨yP, [yO1 b, yO0], none, 0⟩, ⟨yQ, [yO0], none, 0⟩]
def yTz : List DPack := [⟨yZ, [], none, 0⟩]
theorem y_sel (b : Nat) : selL [] yP yNs [yO0, yO1 b] = [yO0, yO1 b] := rfl
theorem y_selq : selL [] yQ yNs [yO0] = [yO0] := rfl
theorem y_choice (b : Nat) : ChoiceIs [] yP yNs [yO0, yO1 b] [yO1 b, yO0] := by
  refine ⟨by rw [y_sel]; exact List.Perm.swap _ _ _, ?_⟩
  refine List.pairwise_cons.2 ⟨?_, List.pairwise_cons.2 ⟨by simp, List.Pairwise.nil⟩⟩
  intro x hx
  simp only [List.mem_cons, List.not_mem_nil, or_false] at hx
  subst hx
  show or2 (lockN [] yP (yV 1) (yV 0)) (V4.cmp (yV 0) (yV 1)) < 0; decide
theorem y_choiceq : ChoiceIs [] yQ yNs [yO0] [yO0] := ⟨by rw [y_selq], List.pairwise_cons.2 ⟨by simp, List.Pairwise.nil⟩⟩
theorem y_choicez (nm : ByteArray) (needs : List (Want × Value)) : ChoiceIs [] nm needs [] [] := ⟨List.Perm.refl _, List.Pairwise.nil⟩
theorem y_find1 (b : Nat) : findP (yPs b) (S [112]) = ⟨yP, [yO0, yO1 b], some ⟨b + 2, 0, none⟩, 2⟩ := rfl
theorem y_find2 (b : Nat) : findP (yPs b) (S [113]) = ⟨yQ, [yO0], some ⟨b + 3, 0, none⟩, 1⟩ := rfl
theorem y_find3 (b : Nat) : findP (yPs b) (S [122]) = ⟨yZ, [], none, 0⟩ := rfl
theorem y_edge (b : Nat) : EdgeN [] yNs (yPs b) [112] [113] := ⟨yO1 b, by
  rw [y_find1]
  show _ ∈ selL [] yP yNs [yO0, yO1 b]
  rw [y_sel]; simp, yF b, by simp [yO1], rfl⟩
theorem y_table (b : Nat) : TableIs [] yNs (yPs b) (yTs b) := by
  refine ⟨?_, fun a => ⟨fun h => ?_, fun h => ?_⟩, fun t ht => ?_⟩
  · show ([[112], [113]] : List Nam).Pairwise (· < ·)
    exact List.pairwise_cons.2 ⟨by simp; decide, List.pairwise_cons.2 ⟨by simp, List.Pairwise.nil⟩⟩
  · have h : a ∈ ([[112], [113]] : List Nam) := h
    simp only [List.mem_cons, List.not_mem_nil, or_false] at h
    rcases h with rfl | rfl
    · exact ⟨[112], by simp [yNs, yN, wname], .refl _⟩
    · exact ⟨[112], by simp [yNs, yN, wname], .tail (.refl _) (y_edge b)⟩
  · show a ∈ ([[112], [113]] : List Nam)
    obtain ⟨s, hs, hg⟩ := h
    have hs2 : s ∈ ([[112], [113]] : List Nam) := by simp [yNs, yN, wname] at hs; subst hs; simp
    refine closed_goes (fun x hx d hd => ?_) hs2 hg
    obtain ⟨o, ho, n, hn, rfl⟩ := hd
    simp only [List.mem_cons, List.not_mem_nil, or_false] at hx
    rcases hx with rfl | rfl
    · rw [y_find1] at ho
      have ho : o ∈ selL [] yP yNs [yO0, yO1 b] := ho
      rw [y_sel] at ho
      simp only [List.mem_cons, List.not_mem_nil, or_false] at ho
      rcases ho with rfl | rfl
      · cases hn
      · simp [yO1] at hn; subst hn; simp [yF, wname]
    · rw [y_find2] at ho
      have ho : o ∈ selL [] yQ yNs [yO0] := ho
      rw [y_selq] at ho
      simp only [List.mem_cons, List.not_mem_nil, or_false] at ho
      subst ho
      cases hn
  · unfold yTs at ht
    simp only [List.mem_cons, List.not_mem_nil, or_false] at ht
    rcases ht with rfl | rfl
    · exact ⟨[yO1 b, yO0], by have h := y_choice b; rw [show findP (yPs b) yP = _ from y_find1 b]; exact h, SimOs.refl _⟩
    · exact ⟨[yO0], by rw [show findP (yPs b) yQ = _ from y_find2 b]; exact y_choiceq, SimOs.refl _⟩
theorem y_tablez (b : Nat) : TableIs [] yZs (yPs b) yTz := by
  refine ⟨?_, fun a => ⟨fun h => ?_, fun h => ?_⟩, fun t ht => ?_⟩
  · show ([[122]] : List Nam).Pairwise (· < ·)
    exact List.pairwise_cons.2 ⟨by simp, List.Pairwise.nil⟩
  · have h : a ∈ ([[122]] : List Nam) := h
    simp only [List.mem_cons, List.not_mem_nil, or_false] at h
    subst h
    exact ⟨[122], by simp [yZs, yN, wname], .refl _⟩
  · show a ∈ ([[122]] : List Nam)
    obtain ⟨s, hs, hg⟩ := h
    have hs2 : s ∈ ([[122]] : List Nam) := by simp [yZs, yN, wname] at hs; subst hs; simp
    refine closed_goes (fun x hx d hd => ?_) hs2 hg
    obtain ⟨o, ho, n, hn, rfl⟩ := hd
    simp only [List.mem_cons, List.not_mem_nil, or_false] at hx
    subst hx
    rw [y_find3] at ho
    cases ho
  · unfold yTz at ht
    simp only [List.mem_cons, List.not_mem_nil, or_false] at ht
    subst ht
    exact ⟨[], by rw [show findP (yPs b) yZ = _ from y_find3 b]; exact y_choicez _ _, SimOs.refl _⟩
/-- the probe's table, plain -/
def yT : List PP := [⟨[112], [⟨yV 1, [⟨[113], yFar⟩]⟩, ⟨yV 0, []⟩]⟩, ⟨[113], [⟨yV 0, []⟩]⟩]
theorem y_ppL (b : Nat) : ppL (yTs b) = yT := rfl
theorem y_all : allW (ksOf (askN yNs) yT) = [[0, 0], [0, 1], [1, 0], [1, 1]] := by decide
theorem y_bad0 : ¬ GoodW yT (askN yNs) [0, 0] := fun h => by
  have := h.1 1 (by decide)
  revert this; decide
theorem y_bad1 : ¬ GoodW yT (askN yNs) [0, 1] := fun h => by
  have := h.1 1 (by decide)
  revert this; decide
theorem y_bad2 : ¬ GoodW yT (askN yNs) [1, 0] := fun h => by
  obtain ⟨s, hs, hg⟩ := h.2 1 (by decide) ⟨yV 0, []⟩ rfl
  have hcl : ∀ i, Goes (StepG yT [1, 0]) s i → i = s := fun i hi => by
    cases hi with
    | refl => rfl
    | @tail x _ _ he =>
      obtain ⟨_, _, o, ho, n, hn, _⟩ := he
      have : o.ws = [] := by
        match x, ho with
        | 0, ho => have ho : some (⟨yV 0, []⟩ : PO) = some o := ho; injection ho with ho; subst ho; rfl
        | 1, ho => have ho : some (⟨yV 0, []⟩ : PO) = some o := ho; injection ho with ho; subst ho; rfl
        | x + 2, ho => cases ho
      rw [this] at hn; cases hn
  have h1 := hcl 1 hg
  subst h1
  have := hs.2.1
  revert this; decide
theorem y_good : GoodW yT (askN yNs) [1, 1] := by
  refine ⟨fun i hi => ?_, fun i hi p hp => ?_⟩
  · match i, hi with
    | 0, _ => decide
    | 1, _ => decide
    | i + 2, hi => exact absurd hi (by show ¬ i + 2 < 2; omega)
  · match i, hi, hp with
    | 0, _, hp => exact ⟨0, ⟨by decide, by decide, ⟨_, hp⟩⟩, .refl _⟩
    | 1, _, hp => cases hp
    | i + 2, hi, _ => exact absurd hi (by show ¬ i + 2 < 2; omega)
theorem y_err : needErr yNs = 0 := by decide
theorem y_errz : needErr yZs = 0 := by decide
def yL : List Pik := [⟨yP, yV 0⟩]
theorem y_sol10 (b : Nat) : SolIs [] yNs (yPs b) 10 yL 4 0 := by
  refine .inr (.inr ⟨y_err, by decide, by decide, yTs b, y_table b, some [1, 1], .inl ⟨rfl, 3, ?_⟩, rfl⟩)
  rw [y_ppL, y_all]
  refine ⟨by decide, rfl, rfl, by decide, y_good, fun j hj h3 => ?_⟩
  match j, h3 with
  | 0, _ => exact y_bad0
  | 1, _ => exact y_bad1
  | 2, _ => exact y_bad2
theorem y_sol3 (b : Nat) : SolIs [] yNs (yPs b) 3 [] 3 251 := by
  refine .inr (.inr ⟨y_err, by decide, by decide, yTs b, y_table b, none, .inr (.inr ⟨rfl, rfl, rfl, ?_⟩), rfl⟩)
  rw [y_ppL, y_all]
  refine ⟨by decide, fun j hj h3 => ?_⟩
  match j, h3 with
  | 0, _ => exact y_bad0
  | 1, _ => exact y_bad1
  | 2, _ => exact y_bad2
theorem y_solz (b : Nat) : SolIs [] yZs (yPs b) 3 [] 0 250 := by
  refine .inr (.inr ⟨y_errz, by decide, by decide, yTz, y_tablez b, none, .inr (.inl ⟨rfl, rfl, ?_⟩), rfl⟩)
  have : allW (ksOf (askN yZs) (ppL yTz)) = [] := by decide
  rw [this]
  exact ⟨rfl, by decide, fun j hj => absurd hj (Nat.not_lt_zero _)⟩
theorem y_holds (b : Nat) {ts : List DPack} (ht : TableIs [] yNs (yPs b) ts) : HoldsIs (ppL ts) (askN yNs) yL := (y_sol10 b).holds ht
theorem y_not {ts : List DPack} {b : Nat} (ht : TableIs [] yNs (yPs b) ts) : ¬ HoldsIs (ppL ts) (askN yNs) [] := fun h => by
  obtain ⟨ws, hw, _, hp⟩ := h
  rw [tables_pp ht (y_table b), y_ppL] at hw hp
  have hm := mem_allW.2 hw
  rw [y_all] at hm
  have hl := hp.length_eq
  simp only [List.mem_cons, List.not_mem_nil, or_false] at hm
  rcases hm with rfl | rfl | rfl | rfl <;> (revert hl; decide)
end Go
