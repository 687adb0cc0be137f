/- small facts on texts of bytes, for the walks. What puts a value into a frame, as one simp rule. -/
import Derived.WalkKit
import Derived.WalkSpells
import Derived.WalkLawsBesides
import Derived.Laws.BytesArg
import Derived.Lib.Strings
namespace Go
/-- a text of bytes -/
def S (l : List UInt8) : ByteArray := ⟨l.toArray⟩
theorem S_data (l : List UInt8) : (S l).data.toList = l := rfl
theorem S_toList (l : List UInt8) : (S l).toList = l := by rw [Lib.toList_data]; rfl
theorem S_size (l : List UInt8) : (S l).size = l.length := by simp [S, ByteArray.size]
theorem S_of (s : ByteArray) : S s.data.toList = s := rfl
theorem S_append (a b : List UInt8) : S a ++ S b = S (a ++ b) := by
 apply ByteArray.ext; apply Array.toList_inj.1; simp [S]
theorem S_inj {a b : List UInt8} (h : S a = S b) : a = b := by
 have := congrArg (fun s => s.data.toList) h; exact this
/-- a quiet call behind an elder draw: the kit's 'quiet_of_same' asks for a bare world -/
theorem quiet_same2 {P : Program} {f : FuncId} {args : Array Value} {w : World} {a n : Nat} {v : Value}
  (h : Calls P f args (w.drewN (a + n)) fun e w' => e = .returned v ∧ w' = w.drewN (a + n)) : Calls P f args (w.drewN (a + n)) fun e w'' => e = .returned v ∧ ∃ m, w'' = w.drewN (a + m) :=
 h.mono fun _ _ ⟨he, hm⟩ => ⟨he, n, hm⟩
end Go

namespace Go
theorem putL : (∀ {α : Type} (xs : List α) (i : Nat) (h : i < xs.toArray.size), xs.toArray[i] = xs[i]'(by simpa using h)) ∧ (∀ {α : Type} (a : α) (ys : List α) (i : Nat) (h : i + 1 < (a :: ys).length), (a :: ys)[i + 1] = ys[i]'(by simpa using h)) ∧
  (∀ {α : Type} (a : α) (ys : List α) (h : 0 < (a :: ys).length), (a :: ys)[0] = a) ∧ (∀ {α : Type} (l : List α) (i : Nat) (a : α), l.toArray.setIfInBounds i a = (l.set i a).toArray) ∧
  (∀ {α : Type} (x : α) (xs : List α) (i : Nat) (a : α), (x :: xs).set (i + 1) a = x :: xs.set i a) ∧ (∀ {α : Type} (x : α) (xs : List α) (a : α), (x :: xs).set 0 a = a :: xs) :=
 ⟨fun _ _ _ => List.getElem_toArray _, fun _ _ _ _ => List.getElem_cons_succ .., fun _ _ _ => List.getElem_cons_zero .., fun _ _ _ => List.setIfInBounds_toArray .., fun _ _ _ _ => List.set_cons_succ .., fun _ _ _ => List.set_cons_zero ..⟩
end Go
