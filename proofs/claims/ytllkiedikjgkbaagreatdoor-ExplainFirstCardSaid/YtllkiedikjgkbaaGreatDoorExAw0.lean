/- Explain: what the laws' probe comes to: plain. -/
import Derived.Test.YtllkiedikjgkbaaGreatDoorExCmp
import Derived.Test.YtllkiedikjgkbaaGreatDoorExShow
import Derived.Test.YtllkiedikjgkbaaGreatDoorSolPlains
namespace Go
open Go.RowKit
def xP : ByteArray := ⟨#[112]⟩
def xV1 : V4 := ⟨1, 0, 0, ⟨#[]⟩⟩
def xV2 : V4 := ⟨2, 0, 0, ⟨#[]⟩⟩
def xB : List Bnd := [⟨4, xV2⟩]
def xF (b : Nat) : Want × Value := (⟨[112], xB⟩, .slice (some ⟨b, 0, none⟩) 1 1)
def xO1 : DOff := ⟨xV1, false, [], none, 0⟩
def xO2 : DOff := ⟨xV2, true, [], none, 0⟩
def xNs (b : Nat) : List (Want × Value) := [xF b]
def xPs (c : Nat) : List DPack := [⟨xP, [xO1, xO2], some ⟨c, 0, none⟩, 2⟩]
def xTs : List DPack := [⟨xP, [], none, 0⟩]
theorem x_sel (b : Nat) : selL [] xP (xNs b) [xO1, xO2] = [] := rfl
theorem x_find (c : Nat) : findP (xPs c) (S [112]) = ⟨xP, [xO1, xO2], some ⟨c, 0, none⟩, 2⟩ := rfl
theorem x_err (b : Nat) : needErr (xNs b) = 0 := by show needErr [(⟨[112], xB⟩, Value.slice (some ⟨b, 0, none⟩) 1 1)] = 0; rfl
theorem x_table (b c : Nat) : TableIs [] (xNs b) (xPs c) xTs := by
  refine ⟨?_, fun a => ⟨fun h => ?_, fun h => ?_⟩, fun t ht => ?_⟩
  · show ([[112]] : List Nam).Pairwise (· < ·)
    exact List.pairwise_cons.2 ⟨by simp, List.Pairwise.nil⟩
  · have h : a ∈ ([[112]] : List Nam) := h
    simp only [List.mem_cons, List.not_mem_nil, or_false] at h
    subst h
    exact ⟨[112], by simp [xNs, xF, wname], .refl _⟩
  · show a ∈ ([[112]] : List Nam)
    obtain ⟨s, hs, hg⟩ := h
    have hs2 : s ∈ ([[112]] : List Nam) := by simp [xNs, xF, wname] at hs; subst hs; simp
    refine closed_goes (fun x hx d hd => ?_) hs2 hg
    obtain ⟨o, ho, n, hn, rfl⟩ := hd
    simp only [List.mem_cons, List.not_mem_nil, or_false] at hx
    subst hx
    rw [x_find] at ho
    have ho : o ∈ selL [] xP (xNs b) [xO1, xO2] := ho
    rw [x_sel] at ho
    cases ho
  · unfold xTs at ht
    simp only [List.mem_cons, List.not_mem_nil, or_false] at ht
    subst ht
    refine ⟨[], ⟨?_, List.Pairwise.nil⟩, SimOs.refl _⟩
    rw [show findP (xPs c) xP = _ from x_find c]
    show List.Perm [] (selL [] xP (xNs b) [xO1, xO2])
    rw [x_sel]
theorem x_table0 (c : Nat) : TableIs [] [] (xPs c) [] :=
  ⟨List.Pairwise.nil, fun a => ⟨(fun h => by cases h), fun ⟨s, hs, _⟩ => by simp at hs⟩, fun t ht => by cases ht⟩
theorem x_sol (b c : Nat) : SolIs [] (xNs b) (xPs c) 9 [] 0 250 := by
  refine .inr (.inr ⟨x_err b, by decide, by decide, xTs, x_table b c, none, .inr (.inl ⟨rfl, rfl, ?_⟩), rfl⟩)
  have : allW (ksOf (askN (xNs b)) (ppL xTs)) = [] := by show allW (ksOf (askN [(⟨[112], xB⟩, Value.slice (some ⟨b, 0, none⟩) 1 1)]) (ppL xTs)) = []; rfl
  rw [this]
  exact ⟨rfl, by decide, fun j hj => absurd hj (Nat.not_lt_zero _)⟩
theorem x_sol0 (c : Nat) : SolIs [] [] (xPs c) 9 [] 1 0 := by
  refine .inr (.inr ⟨rfl, by decide, by decide, [], x_table0 c, some [], .inl ⟨rfl, 0, ?_⟩, rfl⟩)
  have : allW (ksOf (askN []) (ppL [])) = [[]] := rfl
  rw [this]
  exact ⟨by decide, rfl, rfl, by decide, ⟨fun i hi => absurd hi (Nat.not_lt_zero _), fun i hi => absurd hi (Nat.not_lt_zero _)⟩, fun j _ h => absurd h (Nat.not_lt_zero _)⟩
theorem x_blame (b c : Nat) : BlameIs [] (xNs b) (xPs c) 9 1 0 := by
  refine .inr ⟨x_err b, 1, fun i hi => ?_, .inl ⟨Nat.le_refl _, ⟨[], 0, x_sol b c⟩, rfl, rfl⟩⟩
  have : i = 0 := by omega
  subst this
  exact ⟨[], 1, x_sol0 c⟩
theorem x_out : OutD (okO [xO1, xO2]) [xO2, xO1] := by
  have e : okO [xO1, xO2] = [xO1, xO2] := rfl
  rw [e]
  refine ⟨[(xO2, 1), (xO1, 0)], rfl, ?_, fun x => ⟨fun hx => ?_, fun ⟨i, hi, hx⟩ => ?_⟩⟩
  · refine List.pairwise_cons.2 ⟨fun y hy => ?_, List.pairwise_cons.2 ⟨by simp, List.Pairwise.nil⟩⟩
    simp only [List.mem_cons, List.not_mem_nil, or_false] at hy
    subst hy
    exact .inl (by show V4.cmp xV1 xV2 < 0; decide)
  · simp only [List.mem_cons, List.not_mem_nil, or_false] at hx
    rcases hx with rfl | rfl
    · exact ⟨1, by decide, rfl⟩
    · exact ⟨0, by decide, rfl⟩
  · match i, hi with
    | 0, _ => subst hx; simp
    | 1, _ => subst hx; simp
/-- 'p >=2.0.0' 'of p: 2.0.0- 1.0.0' -/
def xT : ByteArray := ⟨#[112, 32, 62, 61, 50, 46, 48, 46, 48, 10, 111, 102, 32, 112, 58, 32, 50, 46, 48, 46, 48, 45, 32, 49, 46, 48, 46, 48, 10]⟩
theorem x_textL (b : Nat) : S (textL (xNs b) (0 + 1) (S [112]) [xO2, xO1]) = xT := by
  have h : textL (xNs b) (0 + 1) (S [112]) [xO2, xO1] = xT.data.toList := by
    show needT (⟨[112], xB⟩, Value.slice none 0 0) ++ [] ++ ([111, 102, 32] ++ ((S [112]).data.toList ++ (58 :: (([xO2, xO1].flatMap offT) ++ [10])))) = _
    decide +kernel
  rw [h]; exact S_of _
theorem x_text (b c : Nat) : TextIs (xNs b) (xPs c) 1 xT 0 :=
  .inr (.inr ⟨by show ¬ ((1 : Int) < 1 ∨ ((1 : Nat) : Int) < 1); decide, x_err b, rfl, 0, by show 0 < 1; decide, rfl, [xO2, xO1], x_out, (x_textL b).symm⟩)
def xL : List Pik := [⟨xP, xV1⟩]
theorem x_ok : xL.all Pik.ok = true := by decide +kernel
theorem x_show : showT xL = ⟨#[112, 32, 49, 46, 48, 46, 48, 10]⟩ ∧ showE xL = 0 := by
  obtain ⟨h1, h2⟩ := show_ok x_ok
  refine ⟨?_, h2⟩
  rw [h1]
  have h : xL.flatMap pikT = [112, 32, 49, 46, 48, 46, 48, 10] := by decide +kernel
  rw [h]; rfl
end Go
