/- Versions in plain Lean: two parts of digits, by their numbers. -/
import Derived.Test.YthojbknakmjndaaDoorSemMath3
import Derived.Lib.TrimByte
namespace Go
def pad (n : Nat) (l : List UInt8) : List UInt8 := List.replicate (n - l.length) 48 ++ l
def partsCmp (a b : List UInt8) : Int := if Sem4.digits a then (if Sem4.digits b then txt (pad b.length a) (pad a.length b) else -1) else (if Sem4.digits b then 1 else txt a b)
/-- what cmp.Or of two hands back -/
def or2 (a b : Int) : Int := if a = 0 then b else a
def numCmp (a b : List UInt8) : Int := or2 (ord ((Lib.trimLeftB a 48).length : Int) ((Lib.trimLeftB b 48).length : Int)) (txt (Lib.trimLeftB a 48) (Lib.trimLeftB b 48))
theorem ord_lt {a b : Int} (h : a < b) : ord a b = -1 := by unfold ord; rw [if_pos h]
theorem ord_gt {a b : Int} (h : b < a) : ord a b = 1 := by unfold ord; rw [if_neg (by omega), if_pos h]
theorem ord_eq (a : Int) : ord a a = 0 := by unfold ord; rw [if_neg (by omega), if_neg (by omega)]
theorem zeros_trim (l : List UInt8) : ∃ k, l = List.replicate k 48 ++ Lib.trimLeftB l 48 := by
  induction l with
  | nil => exact ⟨0, rfl⟩
  | cons c l ih =>
    unfold Lib.trimLeftB at ih ⊢
    rw [List.dropWhile_cons]
    by_cases h : c = 48
    · obtain ⟨k, hk⟩ := ih
      subst h
      refine ⟨k + 1, ?_⟩
      rw [if_pos (by decide), List.replicate_succ, List.cons_append, ← hk]
    · rw [if_neg (by simpa using h)]; exact ⟨0, rfl⟩
theorem pad_trim (n : Nat) (l : List UInt8) : pad n l = List.replicate (max n l.length - (Lib.trimLeftB l 48).length) 48 ++ Lib.trimLeftB l 48 := by
  obtain ⟨k, hk⟩ := zeros_trim l
  have hl := congrArg List.length hk
  simp at hl
  unfold pad
  conv => lhs; rw [hk]
  rw [← List.append_assoc, List.replicate_append_replicate, hl, List.length_append, List.length_replicate]
  congr 2
  omega
theorem trim_head {l : List UInt8} (h : l.all Sem4.isDig = true) {c : UInt8} {r : List UInt8} (e : Lib.trimLeftB l 48 = c :: r) : (48 : UInt8) < c := by
  have h1 : c ≠ 48 := by
    have := dropWhile_head (p := (· == 48)) e
    simpa using this
  have h2 : c ∈ l := by
    have : c ∈ Lib.trimLeftB l 48 := by rw [e]; simp
    exact (List.dropWhile_sublist _).mem this
  have h3 := List.all_eq_true.1 h _ h2
  simp [Sem4.isDig] at h3
  rw [UInt8.lt_iff_toNat_lt]
  have : c.toNat ≠ 48 := fun e => h1 (UInt8.toNat_inj.1 e)
  show 48 < c.toNat
  omega
theorem txt_zeros {k : Nat} (hk : 0 < k) (x : List UInt8) {c : UInt8} (r : List UInt8) (hc : (48 : UInt8) < c) : txt (List.replicate k 48 ++ x) (c :: r) = -1 ∧ txt (c :: r) (List.replicate k 48 ++ x) = 1 := by
  obtain ⟨j, rfl⟩ : ∃ j, k = j + 1 := ⟨k - 1, by omega⟩
  rw [List.replicate_succ, List.cons_append, txt_cons, txt_cons, if_pos hc, if_neg (by rw [UInt8.lt_iff_toNat_lt] at hc ⊢; omega), if_pos hc]
  exact ⟨rfl, rfl⟩
theorem numCmp_pad (a b : List UInt8) (ha : a.all Sem4.isDig = true) (hb : b.all Sem4.isDig = true) : txt (pad b.length a) (pad a.length b) = numCmp a b := by
  rw [pad_trim, pad_trim]
  have la : (Lib.trimLeftB a 48).length ≤ a.length := (List.dropWhile_sublist _).length_le
  have lb : (Lib.trimLeftB b 48).length ≤ b.length := (List.dropWhile_sublist _).length_le
  unfold numCmp
  rcases Nat.lt_trichotomy (Lib.trimLeftB a 48).length (Lib.trimLeftB b 48).length with h | h | h
  · rw [ord_lt (by omega), show or2 (-1) _ = -1 from rfl]
    cases e : Lib.trimLeftB b 48 with
    | nil => rw [e] at h; cases h
    | cons c r =>
      have hc := trim_head hb e
      rw [← e, show List.replicate (max b.length a.length - (Lib.trimLeftB a 48).length) (48 : UInt8) = List.replicate (max a.length b.length - (Lib.trimLeftB b 48).length) 48 ++ List.replicate ((Lib.trimLeftB b 48).length - (Lib.trimLeftB a 48).length) 48 by
        rw [List.replicate_append_replicate]; congr 1; omega, List.append_assoc, txt_app, e]
      rw [e] at h
      exact (txt_zeros (by omega) _ _ hc).1
  · rw [h, ord_eq, Nat.max_comm, txt_app]; rfl
  · rw [ord_gt (by omega), show or2 1 _ = 1 from rfl]
    cases e : Lib.trimLeftB a 48 with
    | nil => rw [e] at h; cases h
    | cons c r =>
      have hc := trim_head ha e
      rw [← e, show List.replicate (max a.length b.length - (Lib.trimLeftB b 48).length) (48 : UInt8) = List.replicate (max b.length a.length - (Lib.trimLeftB a 48).length) 48 ++ List.replicate ((Lib.trimLeftB a 48).length - (Lib.trimLeftB b 48).length) 48 by
        rw [List.replicate_append_replicate]; congr 1; omega, List.append_assoc, txt_app, e]
      rw [e] at h
      exact (txt_zeros (by omega) _ _ hc).2
theorem digits_all {l : List UInt8} (h : Sem4.digits l = true) : l.all Sem4.isDig = true := by
  unfold Sem4.digits at h; rw [Bool.and_eq_true] at h; exact h.2
theorem partsCmp_num (a b : List UInt8) : partsCmp a b = if Sem4.digits a then (if Sem4.digits b then numCmp a b else -1) else (if Sem4.digits b then 1 else txt a b) := by
  unfold partsCmp
  cases ha : Sem4.digits a <;> cases hb : Sem4.digits b <;> try rfl
  simp only [if_true]
  exact numCmp_pad a b (digits_all ha) (digits_all hb)
end Go
