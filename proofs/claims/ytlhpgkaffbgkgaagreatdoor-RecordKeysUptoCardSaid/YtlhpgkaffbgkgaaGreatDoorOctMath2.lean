/- Lists as bytes, plainly: what was laid is read as it was. -/
import Derived.Test.YtlhpgkaffbgkgaaGreatDoorOctMath
namespace Go.Oct
theorem textL_len (s : List UInt8) : s.length + 1 ≤ (textL s).length ∧ (textL s).length ≤ s.length + 9 := by
  have h1 := numL_len9 s.length
  have h2 : 1 ≤ (numL s.length).length := List.length_pos_iff.2 (numL_ne _)
  unfold textL
  rw [List.length_append]
  omega
theorem tT_text {s : List UInt8} (h : s.length < 18446744073709551616) (r : List UInt8) : tT (textL s ++ r) = (s, (textL s).length, 0) := by
  have e : tN (textL s ++ r) = (s.length, (numL s.length).length, 0) := by
    unfold textL
    rw [List.append_assoc]
    exact tN_num h _
  have d : (textL s ++ r).drop (numL s.length).length = s ++ r := by
    unfold textL
    rw [List.append_assoc, List.drop_left]
  unfold tT
  rw [e]
  simp only [ne_eq, not_true_eq_false, if_false, d]
  rw [if_neg (by rw [List.length_append]; omega), List.take_left]
  unfold textL
  rw [List.length_append]
theorem tLs_texts : ∀ (ls : List (List UInt8)) (r : List UInt8), (∀ l ∈ ls, l.length < 18446744073709551616) → tLs ls.length ((ls.map textL).flatten ++ r) = (ls, ((ls.map textL).flatten).length, 0)
  | [], r, _ => rfl
  | l :: ls, r, h => by
    have e := tT_text (h l List.mem_cons_self) ((ls.map textL).flatten ++ r)
    have ih := tLs_texts ls r (fun x hx => h x (List.mem_cons_of_mem _ hx))
    rw [List.length_cons, List.map_cons, List.flatten_cons, List.append_assoc, tLs, e]
    simp only [ne_eq, not_true_eq_false, if_false, List.drop_left, ih]
    rw [List.length_append]
theorem tL_list {ls : List (List UInt8)} (hn : ls.length < 18446744073709551616) (h : ∀ l ∈ ls, l.length < 18446744073709551616) (r : List UInt8) : tL (listL ls ++ r) = (ls, (listL ls).length, 0) := by
  have e : tN (listL ls ++ r) = (ls.length, (numL ls.length).length, 0) := by
    unfold listL
    rw [List.append_assoc]
    exact tN_num hn _
  have d : (listL ls ++ r).drop (numL ls.length).length = (ls.map textL).flatten ++ r := by
    unfold listL
    rw [List.append_assoc, List.drop_left]
  unfold tL
  rw [e]
  simp only [ne_eq, not_true_eq_false, if_false, d, tLs_texts ls r h]
  unfold listL
  rw [List.length_append]
theorem texts_len (M : Nat) : ∀ ls : List (List UInt8), (∀ l ∈ ls, l.length ≤ M) → ((ls.map textL).flatten).length ≤ ls.length * (M + 9)
  | [], _ => by simp
  | l :: ls, h => by
    have h1 := texts_len M ls (fun x hx => h x (List.mem_cons_of_mem _ hx))
    have h2 := h l List.mem_cons_self
    have h3 := (textL_len l).2
    rw [List.map_cons, List.flatten_cons, List.length_append, List.length_cons, Nat.succ_mul]
    omega
theorem listL_len (M : Nat) (ls : List (List UInt8)) (h : ∀ l ∈ ls, l.length ≤ M) : (listL ls).length ≤ 9 + ls.length * (M + 9) := by
  have h1 := texts_len M ls h
  have h2 := numL_len9 ls.length
  unfold listL
  rw [List.length_append]
  omega
theorem tT_small (l : List UInt8) : (tT l).1.length ≤ l.length := by
  unfold tT
  split
  · simp
  · split
    · simp
    · simp only [List.length_take, List.length_drop]; omega
theorem tLs_small : ∀ (n : Nat) (l : List UInt8), ∀ x ∈ (tLs n l).1, x.length ≤ l.length
  | 0, l, x, h => by cases h
  | n + 1, l, x, h => by
    rw [tLs] at h
    split at h
    · cases h
    · split at h
      · cases h
      · simp only [List.mem_cons] at h
        rcases h with rfl | h
        · exact tT_small l
        · have := tLs_small n _ x h
          rw [List.length_drop] at this; omega
theorem tL_small (l : List UInt8) : ∀ x ∈ (tL l).1, x.length ≤ l.length := by
  intro x h
  unfold tL at h
  split at h
  · cases h
  · split at h
    · cases h
    · have := tLs_small _ _ x h
      rw [List.length_drop] at this; omega
end Go.Oct
