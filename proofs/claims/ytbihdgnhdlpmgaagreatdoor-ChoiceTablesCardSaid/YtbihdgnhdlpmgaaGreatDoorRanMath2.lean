/- A bound's text in plain Lean. -/
import Derived.Test.YtbihdgnhdlpmgaaGreatDoorRanMath
import Derived.Test.YtbihdgnhdlpmgaaGreatDoorSemCom
namespace Go
open Go.RowKit
def Bnd.zero : Bnd := ⟨0, V4.zero⟩
def BoundIs (l : List UInt8) (b : Bnd) (ok : Bool) : Prop := (ok = true ∧ b.ok = true ∧ b.show = l) ∨ (ok = false ∧ b = Bnd.zero ∧ ∀ b' : Bnd, b'.ok = true → b'.show ≠ l)
def BoundAs (l : List UInt8) (w : World) (e : Ending) (w' : World) : Prop :=
  ∃ (b : Bnd) (ok : Bool), e = .returned (.tuple #[.agg #[.int .i64 b.op, .int .i64 b.v.a, .int .i64 b.v.b, .int .i64 b.v.c, .string b.v.p], .bool ok]) ∧ BoundIs l b ok ∧ Below w.heap.size w w'
theorem bound_split {l : List UInt8} {b : Bnd} (hb : b.ok = true) (h : b.show = l) : opOk b.op = true ∧ signL b.op = l.takeWhile isSign ∧ b.v.ok = true ∧ b.v.show = l.dropWhile isSign := by
  unfold Bnd.ok at hb
  rw [Bool.and_eq_true] at hb
  subst h
  unfold Bnd.show V4.show
  rw [(take_sign _ _ _ _ _).1, (take_sign _ _ _ _ _).2]
  exact ⟨hb.1, rfl, hb.2, rfl⟩
theorem bound_no1 {l : List UInt8} (h : ∀ a b c p, ¬ IsShow a b c p (l.dropWhile isSign)) : BoundIs l Bnd.zero false := by
  refine .inr ⟨rfl, rfl, fun b hb e => ?_⟩
  obtain ⟨_, _, h3, h4⟩ := bound_split hb e
  exact h _ _ _ _ ⟨h3, h4⟩
theorem bound_no2 {l : List UInt8} (h : ∀ op : Nat, 1 ≤ op → op < 6 → signL (op : Int) ≠ l.takeWhile isSign) : BoundIs l Bnd.zero false := by
  refine .inr ⟨rfl, rfl, fun b hb e => ?_⟩
  obtain ⟨h1, h2, _, _⟩ := bound_split hb e
  simp [opOk] at h1
  refine h b.op.toNat (by omega) (by omega) ?_
  rw [show ((b.op.toNat : Nat) : Int) = b.op by omega]
  exact h2
theorem bound_yes {l : List UInt8} {j : Nat} {a b c : Int} {p : List UInt8} (h1 : 1 ≤ j) (h2 : j < 6) (hs : signL (j : Int) = l.takeWhile isSign) (hv : IsShow a b c p (l.dropWhile isSign)) : BoundIs l ⟨(j : Int), ⟨a, b, c, S p⟩⟩ true := by
  refine .inl ⟨rfl, ?_, ?_⟩
  · unfold Bnd.ok opOk V4.ok
    have e1 : decide ((1 : Int) ≤ (j : Int)) = true := by simp; omega
    have e2 : decide ((j : Int) ≤ 5) = true := by simp; omega
    show (decide ((1 : Int) ≤ (j : Int)) && decide ((j : Int) ≤ 5) && _) = true
    rw [e1, e2]
    exact hv.1
  · unfold Bnd.show V4.show
    have := hv.2
    rw [show signL (⟨(j : Int), ⟨a, b, c, S p⟩⟩ : Bnd).op = signL (j : Int) from rfl, hs]
    refine (congrArg (l.takeWhile isSign ++ ·) this).trans ?_
    exact List.takeWhile_append_dropWhile
theorem sign_here {s : ByteArray} {k : Nat} (h : k < s.size) (hall : (s.data.toList.take k).all isSign = true) (hn : isSign s[k] = false) :
    s.data.toList.takeWhile isSign = s.data.toList.take k ∧ s.data.toList.dropWhile isSign = s.data.toList.drop k := by
  have hl : k < s.data.toList.length := by rw [← Lib.size_eq]; exact h
  have e : s.data.toList = s.data.toList.take k ++ s.data.toList[k] :: s.data.toList.drop (k + 1) := by
    rw [← List.drop_eq_getElem_cons hl, List.take_append_drop]
  have hx : s.data.toList[k] = s[k] := rfl
  have ha := List.all_eq_true.1 hall
  constructor
  · conv => lhs; rw [e]
    rw [List.takeWhile_append_of_pos ha, List.takeWhile_cons, hx, hn]; simp
  · conv => lhs; rw [e]
    rw [List.dropWhile_append_of_pos ha, List.dropWhile_cons, hx, hn]
    rw [List.drop_eq_getElem_cons hl]; simp [hx]
theorem sign_end {s : ByteArray} (hall : (s.data.toList.take s.size).all isSign = true) :
    s.data.toList.takeWhile isSign = s.data.toList.take s.size ∧ s.data.toList.dropWhile isSign = s.data.toList.drop s.size := by
  have hl : s.data.toList.take s.size = s.data.toList := List.take_of_length_le (by rw [← Lib.size_eq]; exact Nat.le_refl _)
  rw [hl] at hall ⊢
  have ha := List.all_eq_true.1 hall
  constructor
  · have := List.takeWhile_append_of_pos (l₂ := []) ha
    simpa using this
  · have := List.dropWhile_append_of_pos (l₂ := []) ha
    rw [List.drop_of_length_le (by rw [← Lib.size_eq]; exact Nat.le_refl _)]
    simpa using this
theorem idx_sign (x : UInt8) : decide (0 ≤ Lib.indexByte [60, 62, 61] x) = isSign x := by
  by_cases h1 : x = 60
  · subst h1; decide
  by_cases h2 : x = 62
  · subst h2; decide
  by_cases h3 : x = 61
  · subst h3; decide
  have q1 : ((60 : UInt8) == x) = false := by simpa using fun h => h1 h.symm
  have q2 : ((62 : UInt8) == x) = false := by simpa using fun h => h2 h.symm
  have q3 : ((61 : UInt8) == x) = false := by simpa using fun h => h3 h.symm
  simp [Lib.indexByte, q1, q2, q3, isSign, h1, h2, h3]
end Go
