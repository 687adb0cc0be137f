/- Lines and columns in plain Lean. -/
import Derived.Test.YthhpinohbjmhcaaDoorUtfMath
import Derived.Test.YthhpinohbjmhcaaDoorBase
import Derived.Lib.LastIndexByte
import Derived.Lib.Bytealg
namespace Utf
/-- behind the last line's end ahead of a place -/
def nlFrom (l : List UInt8) : Nat → Nat
  | 0 => 0
  | i + 1 => if b l i = 10 then i + 1 else nlFrom l i
theorem nlFrom_le (l : List UInt8) (i : Nat) : nlFrom l i ≤ i := by
  induction i with
  | zero => exact Nat.le_refl _
  | succ i ih => unfold nlFrom; split <;> omega
def nlCount (l : List UInt8) : Nat → Nat
  | 0 => 0
  | i + 1 => nlCount l i + if b l i = 10 then 1 else 0
theorem nlCount_le (l : List UInt8) (i : Nat) : nlCount l i ≤ i := by
  induction i with
  | zero => exact Nat.le_refl _
  | succ i ih => unfold nlCount; split <;> omega
theorem nlCount_eq (l : List UInt8) (i : Nat) (h : i ≤ l.length) : nlCount l i = (l.take i).count 10 := by
  induction i with
  | zero => simp [nlCount]
  | succ i ih =>
    have hi : i < l.length := h
    have hb : b l i = l[i].toNat := by unfold b; rw [List.getD_eq_getElem?_getD, List.getElem?_eq_getElem hi]; rfl
    rw [nlCount, ih (by omega), List.take_succ_eq_append_getElem hi, List.count_append, hb]
    congr 1
    by_cases hc : l[i] = 10
    · simp [hc]
    · have : ¬ l[i].toNat = 10 := fun e => hc (UInt8.toNat_inj.1 e)
      rw [if_neg this]; simp [hc]
/-- how many code points end up to a place -/
def colF (l : List UInt8) (at_ : Nat) : Nat → Nat → Nat
  | 0, _ => 0
  | f + 1, a => if a < at_ then (if a + (dec (l.drop a)).2 ≤ at_ then 1 else 0) + colF l at_ f (a + (dec (l.drop a)).2) else 0
theorem colF_fuel (l : List UInt8) (at_ : Nat) (hat : at_ ≤ l.length) : ∀ (f g a : Nat), at_ - a ≤ f → at_ - a ≤ g → colF l at_ f a = colF l at_ g a := by
  intro f
  induction f with
  | zero =>
    intro g a h _
    cases g <;> simp [colF]; omega
  | succ f ih =>
    intro g a hf hg
    by_cases hlt : a < at_
    · have hne : l.drop a ≠ [] := by
        intro e; have := congrArg List.length e; rw [List.length_drop, List.length_nil] at this; omega
      have hp := (dec_pos _ hne).1
      cases g with
      | zero => omega
      | succ g =>
        simp only [colF, if_pos hlt]
        rw [ih g _ (by omega) (by omega)]
    · cases g <;> simp [colF, hlt]
def colT (l : List UInt8) (at_ a : Nat) : Nat := colF l at_ at_ a
theorem colT_step (l : List UInt8) (at_ a : Nat) (hat : at_ ≤ l.length) (h : a < at_) : colT l at_ a = (if a + (dec (l.drop a)).2 ≤ at_ then 1 else 0) + colT l at_ (a + (dec (l.drop a)).2) := by
  unfold colT
  rw [colF_fuel l at_ hat at_ (at_ + 1) a (by omega) (by omega)]
  simp only [colF, if_pos h]
theorem colT_end (l : List UInt8) (at_ a : Nat) (h : at_ ≤ a) : colT l at_ a = 0 := by
  unfold colT
  cases at_ with
  | zero => rfl
  | succ n => simp only [colF]; rw [if_neg (by omega)]
theorem colT_le (l : List UInt8) (at_ : Nat) (hat : at_ ≤ l.length) : ∀ (n a : Nat), at_ - a ≤ n → colT l at_ a ≤ at_ - a := by
  intro n
  induction n with
  | zero => intro a h; rw [colT_end l at_ a (by omega)]; omega
  | succ n ih =>
    intro a h
    by_cases hlt : a < at_
    · have hne : l.drop a ≠ [] := by
        intro e; have := congrArg List.length e; rw [List.length_drop, List.length_nil] at this; omega
      have hp := (dec_pos _ hne).1
      rw [colT_step l at_ a hat hlt]
      have := ih (a + (dec (l.drop a)).2) (by omega)
      split <;> omega
    · rw [colT_end l at_ a (by omega)]; omega
end Utf
namespace Go
theorem byte_get (s : ByteArray) (i : Nat) : (s.data[i]!).toNat = Utf.b s.data.toList i := by
  unfold Utf.b
  rw [List.getD_eq_getElem?_getD]
  simp only [getElem!_def, Array.getElem?_toList]
  cases s.data[i]? <;> rfl
theorem lastIdx_eq (s : ByteArray) (k : Nat) : Lib.lastIdx s 10 k + 1 = Utf.nlFrom s.data.toList k := by
  induction k with
  | zero => rfl
  | succ k ih =>
    unfold Lib.lastIdx Utf.nlFrom
    rw [byte_get]
    by_cases h : Utf.b s.data.toList k = 10
    · rw [if_pos h, if_pos (by omega)]; rfl
    · rw [if_neg h, if_neg (by omega)]; exact ih
theorem nlFrom_take (l : List UInt8) (a : Nat) : ∀ k, k ≤ a → Utf.nlFrom (l.take a) k = Utf.nlFrom l k := by
  intro k
  induction k with
  | zero => intro _; rfl
  | succ k ih =>
    intro h
    have hb : Utf.b (l.take a) k = Utf.b l k := by
      unfold Utf.b
      rw [List.getD_eq_getElem?_getD, List.getD_eq_getElem?_getD, List.getElem?_take_of_lt (by omega)]
    unfold Utf.nlFrom
    rw [hb, ih (by omega)]
/-- the program's 'strings.LastIndexByte(s[:at], 10) + 1' -/
theorem lastIndex_from (s : ByteArray) (a : Nat) (h : a ≤ s.size) : Lib.lastIndexByte (s.extract 0 a) 10 + 1 = (Utf.nlFrom s.data.toList a : Int) := by
  have hz : (s.extract 0 a).size = a := by simp; omega
  unfold Lib.lastIndexByte
  rw [hz, lastIdx_eq]
  have : (s.extract 0 a).data.toList = s.data.toList.take a := by rw [Lib.extract_data]; simp
  rw [this, nlFrom_take _ _ a (Nat.le_refl _)]
theorem count_from (s : ByteArray) (a : Nat) (h : a ≤ s.size) : Lib.countByte (s.extract 0 a).data.toList 10 = Utf.nlCount s.data.toList a := by
  have : (s.extract 0 a).data.toList = s.data.toList.take a := by rw [Lib.extract_data]; simp
  rw [this, Utf.nlCount_eq _ _ (by rw [← Lib.size_eq]; exact h)]
  rfl
end Go
