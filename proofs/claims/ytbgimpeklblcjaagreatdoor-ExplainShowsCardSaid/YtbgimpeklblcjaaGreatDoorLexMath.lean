/- Names in plain Lean. -/
import Derived.Test.YtbgimpeklblcjaaGreatDoorSemMath
namespace Go
def smallC (c : UInt8) : Bool := decide (97 ≤ c.toNat) && decide (c.toNat ≤ 122)
def greatC (c : UInt8) : Bool := decide (65 ≤ c.toNat) && decide (c.toNat ≤ 90)
def restC (c : UInt8) : Bool := smallC c || greatC c || Sem4.isDig c || decide (c.toNat = 95)
/-- the words that are kept -/
def keptL : List (List UInt8) := [[109, 111, 100, 117, 108, 101], [105, 109, 112, 111, 114, 116], [112, 105, 110], [114, 97, 110, 103, 101], [116, 121, 112, 101], [111, 112, 97, 113, 117, 101], [108, 101, 116], [105, 110], [101, 120, 112, 111, 114, 116], [102, 117, 110], [105, 102], [116, 104, 101, 110], [101, 108, 115, 101], [99, 97, 115, 101], [111, 102], [97, 115], [110, 101, 119], [114, 97, 119], [116, 114, 117, 101], [102, 97, 108, 115, 101]]
def keptB (l : List UInt8) : Bool := decide (l ∈ keptL)
def headIs (f : UInt8 → Bool) : List UInt8 → Bool
 | [] => false
 | c :: _ => f c
/-- is a text a name? -/
def nameOk (l : List UInt8) : Bool := decide (l.length ≤ 24) && headIs smallC l && l.all restC && !keptB l
theorem name_len {l : List UInt8} (h : nameOk l = true) : 0 < l.length ∧ l.length ≤ 24 ∧ l.all restC = true ∧ keptB l = false := by
 unfold nameOk at h
 simp only [Bool.and_eq_true, decide_eq_true_eq, Bool.not_eq_true'] at h
 refine ⟨?_, h.1.1.1, h.1.2, h.2⟩
 cases l with
 | nil => exact absurd h.1.1.2 (by decide)
 | cons => simp
theorem rest_not {c x : UInt8} (h : restC c = true) (hx : restC x = false) : c ≠ x := by rintro rfl; rw [h] at hx; cases hx
theorem name_no {l : List UInt8} (h : nameOk l = true) (x : UInt8) (hx : restC x = false) : ∀ c ∈ l, c ≠ x := fun c hc => rest_not (List.all_eq_true.1 (name_len h).2.2.1 c hc) hx
end Go
