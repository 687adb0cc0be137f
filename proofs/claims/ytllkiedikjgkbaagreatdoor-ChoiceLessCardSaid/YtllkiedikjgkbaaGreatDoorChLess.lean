/- ChoiceLess, plainly: of versions apart, those that may be under more needs lie, in order, among those under fewer. -/
import Derived.Test.YtllkiedikjgkbaaGreatDoorCmdMore
namespace Go
open Go.RowKit
theorem sel_filter (lock : List Pik) (nm : ByteArray) (needs : List (Want × Value)) : ∀ (os out : List DOff), (out ++ os).Pairwise (fun x y => x.v ≠ y.v) →
    os.foldl (selStep lock nm needs) out = out ++ os.filter (fitO lock nm needs)
  | [], out, _ => by simp
  | o :: os, out, h => by
    have h1 : thereB out o = false := by
      rw [Bool.eq_false_iff]
      intro ht
      obtain ⟨x, hx, hv⟩ := List.any_eq_true.1 ht
      exact (List.pairwise_append.1 h).2.2 x hx o List.mem_cons_self ((V4.same_eq _ _).1 hv)
    rw [List.foldl_cons]
    by_cases hf : fitO lock nm needs o = true
    · rw [show selStep lock nm needs out o = out ++ [o] from if_pos ⟨h1, hf⟩, sel_filter lock nm needs os (out ++ [o]) (by rw [List.append_assoc]; exact h), List.filter_cons_of_pos hf, List.append_assoc]
      rfl
    · rw [show selStep lock nm needs out o = out from if_neg (fun h => hf h.2), sel_filter lock nm needs os out (h.sublist ((List.sublist_cons_self o os).append_left out)), List.filter_cons_of_neg hf]
theorem selL_apart (lock : List Pik) (nm : ByteArray) (needs : List (Want × Value)) {os : List DOff} (h : os.Pairwise fun x y => x.v ≠ y.v) : selL lock nm needs os = os.filter (fitO lock nm needs) := by
  rw [show selL lock nm needs os = _ from sel_filter lock nm needs os [] h, List.nil_append]
theorem sub_of_mem {α : Type} {r : α → α → Prop} (hi : ∀ x, ¬ r x x) (ht : ∀ x y z, r x y → r y z → r x z) : ∀ {a b : List α}, a.Pairwise r → b.Pairwise r → (∀ x ∈ a, x ∈ b) → a.Sublist b
  | [], b, _, _, _ => List.nil_sublist b
  | x :: a, [], _, _, h => absurd (h x List.mem_cons_self) (by simp)
  | x :: a, y :: b, ha, hb, h => by
    obtain ⟨a1, a2⟩ := List.pairwise_cons.1 ha
    obtain ⟨b1, b2⟩ := List.pairwise_cons.1 hb
    rcases List.mem_cons.1 (h x List.mem_cons_self) with e | hx
    · subst e
      refine (sub_of_mem hi ht a2 b2 fun z hz => ?_).cons_cons x
      rcases List.mem_cons.1 (h z (List.mem_cons_of_mem _ hz)) with e | h'
      · subst e; exact absurd (a1 _ hz) (hi _)
      · exact h'
    · refine (sub_of_mem hi ht ha b2 fun z hz => ?_).cons y
      rcases List.mem_cons.1 (h z hz) with e | h'
      · subst e
        rcases List.mem_cons.1 hz with e | hz'
        · subst e; exact hx
        · exact absurd (ht _ _ _ (a1 _ hz') (b1 x hx)) (hi _)
      · exact h'
theorem fit_less {lock : List Pik} {nm : ByteArray} {needs needs' : List (Want × Value)} {o : DOff} (hs : ∀ x ∈ needs', x ∈ needs) (h : fitO lock nm needs o = true) : fitO lock nm needs' o = true := by
  unfold fitO at h ⊢
  rw [Bool.and_eq_true, List.all_eq_true] at h ⊢
  exact ⟨h.1, fun x hx => h.2 x (hs x hx)⟩
/-- the choices under more needs lie, in order, among those under fewer -/
theorem ChoiceIs.less {lock : List Pik} {nm : ByteArray} {needs needs' : List (Want × Value)} {os a b : List DOff} (hap : os.Pairwise fun x y => x.v ≠ y.v) (hs : ∀ x ∈ needs', x ∈ needs)
    (h : ChoiceIs lock nm needs os a) (h' : ChoiceIs lock nm needs' os b) : (a.map DOff.v).Sublist (b.map DOff.v) := by
  have ho := good_cmpO lock nm
  refine (sub_of_mem (fun x hx => ?_) (fun x y z p q => ?_) h.2 h'.2 (fun x hx => ?_)).map _
  · have := ho.self x; omega
  · exact ho.lt_le p (by omega)
  · have hx := h.1.mem_iff.1 hx
    rw [selL_apart lock nm needs hap, List.mem_filter] at hx
    rw [h'.1.mem_iff, selL_apart lock nm needs' hap, List.mem_filter]
    exact ⟨hx.1, fit_less hs hx.2⟩
/-! the way along both -/
theorem sub_lt {α : Type} {l m : List α} {i k : Nat} (h : (l.drop i).Sublist (m.drop k)) (hi : i < l.length) : k < m.length := by
  have := h.length_le
  rw [List.length_drop, List.length_drop] at this
  omega
theorem sub_ne {α : Type} {l m : List α} {i k : Nat} (h : (l.drop i).Sublist (m.drop k)) (hi : i < l.length) (hk : k < m.length) (hne : m[k] ≠ l[i]) : (l.drop i).Sublist (m.drop (k + 1)) := by
  rw [List.drop_eq_getElem_cons hi, List.drop_eq_getElem_cons hk] at h
  rw [List.drop_eq_getElem_cons hi]
  generalize l[i] = x at h hne ⊢
  generalize m[k] = y at h hne
  cases h with
  | cons _ h => exact h
  | cons_cons _ h => exact absurd rfl hne
theorem sub_eq {α : Type} {l m : List α} {i k : Nat} (h : (l.drop i).Sublist (m.drop k)) (hi : i < l.length) (hk : k < m.length) : (l.drop (i + 1)).Sublist (m.drop (k + 1)) := by
  rw [List.drop_eq_getElem_cons hi, List.drop_eq_getElem_cons hk] at h
  generalize l[i] = x at h
  generalize m[k] = y at h
  cases h with
  | cons _ h => exact (List.sublist_cons_self _ _).trans h
  | cons_cons _ h => exact h
end Go
