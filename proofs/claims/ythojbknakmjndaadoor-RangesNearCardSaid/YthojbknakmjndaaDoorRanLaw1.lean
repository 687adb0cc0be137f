/- RangesNear: the walk and the plain law. -/
import Derived.Test.YthojbknakmjndaaDoorRanAwake
namespace Go.Proofs.YthojbknakmjndaaDoor
open Go.RowKit
theorem cmp_self (v : V4) : V4.cmp v v = 0 := cmpV_self _ _ _ _
theorem or2_nonneg {a b : Int} (ha : 0 ≤ a) (hb : 0 ≤ b) : 0 ≤ or2 a b := by unfold or2; split <;> omega
theorem or2_neg {a b : Int} (ha : a < 0) : or2 a b < 0 := by unfold or2; rw [if_neg (by omega)]; exact ha
theorem ord_nonneg {a b : Int} (h : b ≤ a) : 0 ≤ ord a b := by unfold ord; rw [if_neg (by omega)]; split <;> decide
theorem cmp_less {x y : V4} (h : x.a < y.a) : V4.cmp x y < 0 := by
  unfold V4.cmp cmpV cmp3
  rw [ord_lt h]
  first | exact or2_neg (or2_neg (by decide)) | decide | simp [or2]
theorem cmp_great {x : V4} {a : Int} (h : a ≤ x.a) (hb : 0 ≤ x.b) (hc : 0 ≤ x.c) (hp : x.p.data.toList = []) : 0 ≤ V4.cmp x ⟨a, 0, 0, ⟨#[]⟩⟩ := by
  unfold V4.cmp cmpV
  dsimp only
  rw [hp]
  refine or2_nonneg ?_ (by decide)
  unfold cmp3
  refine or2_nonneg (ord_nonneg h) (or2_nonneg (ord_nonneg hb) (ord_nonneg hc))
def nx (v : V4) : V4 := ⟨v.a + 1, 0, 0, ⟨#[]⟩⟩
theorem near_two {v : V4} (hv : v.ok = true) (h1 : 1 ≤ v.a) (h2 : v.a ≠ 999999) : near v = [⟨4, v⟩, ⟨1, nx v⟩] := by
  have hb := verOk_bounds hv
  have hn : v.next = nx v := by unfold V4.next; rw [if_neg (by omega)]; rfl
  have hok : (nx v).ok = true := by
    have e1 : numOk (v.a + 1) = true := by unfold numOk; simp; omega
    show verOk (v.a + 1) 0 0 [] = true
    unfold verOk
    rw [e1]; decide
  unfold near
  rw [hn, hv, hok]; rfl
theorem meets_two (x v n : V4) : meetsR x [⟨4, v⟩, ⟨1, n⟩] = (decide (0 ≤ V4.cmp x v) && decide (V4.cmp x n < 0)) := by
  simp [meetsR, meets1]
theorem near_self {v : V4} (hv : v.ok = true) (h1 : 1 ≤ v.a) (h2 : v.a ≠ 999999) : meetsR v (near v) = true := by
  rw [near_two hv h1 h2, meets_two, cmp_self, decide_eq_true (cmp_less (show v.a < (nx v).a by unfold nx; dsimp only; omega))]; rfl
theorem near_low {v x : V4} (hv : v.ok = true) (h1 : 1 ≤ v.a) (h2 : v.a ≠ 999999) (h : V4.cmp x v < 0) : meetsR x (near v) = false := by
  rw [near_two hv h1 h2, meets_two, decide_eq_false (by omega)]; rfl
theorem near_high {v x : V4} (hv : v.ok = true) (hx : x.ok = true) (h1 : 1 ≤ v.a) (h2 : v.a ≠ 999999) (h : v.a < x.a) (hp : x.p.data.toList = []) : meetsR x (near v) = false := by
  have hb := verOk_bounds hx
  have := cmp_great (x := x) (a := v.a + 1) (by omega) (by omega) (by omega) hp
  have e : ¬ V4.cmp x (nx v) < 0 := by unfold nx; omega
  rw [near_two hv h1 h2, meets_two, decide_eq_false e, Bool.and_false]
theorem near_line {v x : V4} (hv : v.ok = true) (h1 : 1 ≤ v.a) (h2 : v.a ≠ 999999) (h : x.a = v.a) (hc : ¬ V4.cmp x v < 0) : meetsR x (near v) = true := by
  rw [near_two hv h1 h2, meets_two, decide_eq_true (show 0 ≤ V4.cmp x v by omega), decide_eq_true (cmp_less (show x.a < (nx v).a by unfold nx; dsimp only; omega))]; rfl
theorem near_sz {v : V4} (hv : v.ok = true) (h1 : 1 ≤ v.a) (h2 : v.a ≠ 999999) : ∀ b ∈ near v, b.v.p.size ≤ 300 := by
  have hb := verOk_bounds hv
  rw [near_two hv h1 h2]
  intro b hb'
  simp at hb'
  rcases hb' with rfl | rfl
  · show v.p.size ≤ 300
    rw [Lib.size_eq]; omega
  · show (⟨#[]⟩ : ByteArray).size ≤ 300
    decide
end Go.Proofs.YthojbknakmjndaaDoor
