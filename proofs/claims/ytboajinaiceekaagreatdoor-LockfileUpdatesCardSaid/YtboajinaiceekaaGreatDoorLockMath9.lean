/- Locks, plainly: what the reference's Parse looks at; the reference's Update, name by name. -/
import Derived.Test.YtboajinaiceekaaGreatDoorLockMath4
import Derived.Test.YtboajinaiceekaaGreatDoorLockPlain
import Derived.Test.YtboajinaiceekaaGreatDoorLockP
namespace Go
theorem lockL_len9 {l : List Pik} (h : mayB l = true) : (lockL l).length ≤ 3000 := by
  have hm := may_mem h
  have := shTo_len hm.1 l.length (Nat.le_refl _)
  rw [shTo_all] at this
  unfold lockL
  rw [List.length_append, sumL_length]
  omega
theorem ref_big {s : List UInt8} (h : 5000 < s.length) : LockIs s [] 370 := lockIs_no fun k hk hs => by
  have := lockL_len9 hk
  rw [hs] at this
  omega
theorem ref_lines {k : List Pik} {s : List UInt8} (hk : mayB k = true) (hs : lockL k = s) : sepAt 10 s = lockLines k ++ [[]] := by
  rw [← hs, lock_flat]; exact sep_lines0 _ (lock_no hk)
/-- the lines between the first and the last two pieces -/
def midL (L : List (List UInt8)) : List (List UInt8) := (L.drop 1).take (L.length - 3)
theorem mid_lock (k : List Pik) : midL (lockLines k ++ [[]]) = k.map Pik.line := by
  unfold midL lockLines
  have : ((108 : UInt8) :: [111, 99, 107, 32, 49]) :: (k.map Pik.line ++ [sumLine (bodyL k)]) ++ [[]] = ((108 : UInt8) :: [111, 99, 107, 32, 49]) :: (k.map Pik.line ++ [sumLine (bodyL k), []]) := by simp
  rw [this]
  simp only [List.drop_succ_cons, List.drop_zero, List.length_cons, List.length_append, List.length_map, List.length_nil]
  rw [show k.length + (0 + 1 + 1) + 1 - 3 = k.length by omega, List.take_append_of_le_length (by simp), List.take_of_length_le (by simp)]
theorem mid_len (L : List (List UInt8)) : (midL L).length = L.length - 3 := by
  unfold midL; rw [List.length_take, List.length_drop]; omega
theorem mid_at {L : List (List UInt8)} {j : Nat} (h : j < (midL L).length) (h' : j + 1 < L.length) : (midL L)[j] = L[j + 1] := by
  have e : (midL L)[j]? = some L[j + 1] := by
    rw [mid_len] at h
    unfold midL
    rw [List.getElem?_take_of_lt (by omega), List.getElem?_drop, Nat.add_comm 1 j, List.getElem?_eq_getElem h']
  rw [List.getElem?_eq_getElem h] at e
  injection e
theorem ref_mid {k : List Pik} {s : List UInt8} (hk : mayB k = true) (hs : lockL k = s) : k.map Pik.line = midL (sepAt 10 s) := by rw [ref_lines hk hs, mid_lock]
theorem ref_short {s : List UInt8} (h : (sepAt 10 s).length < 3) : LockIs s [] 370 := lockIs_no fun k hk hs => by
  rw [ref_lines hk hs] at h
  unfold lockLines at h
  simp at h
  omega
theorem pik_words {p : Pik} (h : p.ok = true) : sepAt 32 p.line = [p.nm, p.v.show] := by
  unfold Pik.line
  rw [sepAt_app _ (name_no (pik_parts h).1 32 (by decide)), sepAt_none fun x hx e => ?_]
  have := show_gt (pik_parts h).2 x hx
  subst e; exact absurd this (by decide)
theorem ref_words {s : List UInt8} {j : Nat} (hj : j < (midL (sepAt 10 s)).length) (h : (sepAt 32 (midL (sepAt 10 s))[j]).length ≠ 2) : LockIs s [] 370 := lockIs_no fun k hk hs => by
  have e := ref_mid hk hs
  have hjk : j < k.length := by rw [← e, List.length_map] at hj; exact hj
  have e2 : (midL (sepAt 10 s))[j]? = (k.map Pik.line)[j]? := by rw [e]
  rw [List.getElem?_eq_getElem hj, List.getElem?_map, List.getElem?_eq_getElem hjk] at e2
  injection e2 with e2
  rw [e2, pik_words ((may_all hk).1 _ (List.getElem_mem hjk))] at h
  exact h rfl
theorem two_words {t n v : List UInt8} (h : sepAt 32 t = [n, v]) : headAt 32 t = n ∧ tailAt 32 t = v := by
  have e := joinAt_sep 32 t
  rw [h] at e
  rw [← e]
  exact cut32_app (fun x hx => sepAt_no 32 t n (by rw [h]; exact List.mem_cons_self) x hx)
theorem ref_ver {s : List UInt8} {j : Nat} (hj : j < (midL (sepAt 10 s)).length) (h : ∀ x y z p, ¬ IsShow x y z p (tailAt 32 (midL (sepAt 10 s))[j])) : LockIs s [] 370 := lockIs_no fun k hk hs => by
  have e := ref_mid hk hs
  have hjk : j < k.length := by rw [← e, List.length_map] at hj; exact hj
  have e2 : (midL (sepAt 10 s))[j]? = (k.map Pik.line)[j]? := by rw [e]
  rw [List.getElem?_eq_getElem hj, List.getElem?_map, List.getElem?_eq_getElem hjk] at e2
  injection e2 with e2
  obtain ⟨g1, g2⟩ := pik_parts ((may_all hk).1 _ (List.getElem_mem hjk))
  have e3 : tailAt 32 (k[j]).line = (k[j]).v.show := (cut32_app (name_no g1 32 (by decide))).2
  have e4 : (midL (sepAt 10 s))[j] = (k[j]).line := e2
  rw [e4, e3] at h
  exact h _ _ _ _ ⟨g2, rfl⟩
theorem ref_end {s : List UInt8} {ps : List Pik} (hp : PickTo (midL (sepAt 10 s)) (midL (sepAt 10 s)).length ps) (h : mayB ps = false ∨ lockL ps ≠ s) : LockIs s [] 370 := lockIs_no fun k hk hs => by
  obtain ⟨h1, h2⟩ := hp
  rw [List.take_length, ← ref_mid hk hs] at h1
  have := pick_all h2 (may_all hk).1 h1
  rw [this] at h
  rcases h with h | h
  · rw [hk] at h; cases h
  · exact h hs
/-! two rows side by side, by their places -/
def UpAt (xs ys : List Pik) (i k : Nat) (a : List UInt8) : Prop := a ++ mergeL (xs.drop i) (ys.drop k) = mergeL xs ys
theorem up_zero (xs ys : List Pik) : UpAt xs ys 0 0 [] := by unfold UpAt; rw [List.drop_zero, List.drop_zero, List.nil_append]
theorem up_minus {xs ys : List Pik} {i k : Nat} {a : List UInt8} (h : UpAt xs ys i k a) (hi : i < xs.length) (hc : k = ys.length ∨ ∃ hk : k < ys.length, xs[i].nm < ys[k].nm) : UpAt xs ys (i + 1) k (a ++ minusL xs[i]) := by
  unfold UpAt at h ⊢
  rw [← h, List.append_assoc, List.drop_eq_getElem_cons hi]
  congr 1
  rcases hc with rfl | ⟨hk, hl⟩
  · rw [List.drop_length, mergeL, List.flatMap_cons]
    congr 1
    cases xs.drop (i + 1) with
    | nil => rw [mergeL]; rfl
    | cons z zs => rw [mergeL]
  · rw [List.drop_eq_getElem_cons hk, mergeL, if_pos hl]
theorem up_plus {xs ys : List Pik} {i k : Nat} {a : List UInt8} (h : UpAt xs ys i k a) (hk : k < ys.length) (hc : i = xs.length ∨ ∃ hi : i < xs.length, ¬ xs[i].nm < ys[k].nm ∧ ys[k].nm < xs[i].nm) : UpAt xs ys i (k + 1) (a ++ plusL ys[k]) := by
  unfold UpAt at h ⊢
  rw [← h, List.append_assoc, List.drop_eq_getElem_cons hk]
  congr 1
  rcases hc with rfl | ⟨hi, hl1, hl2⟩
  · rw [List.drop_length, mergeL, mergeL, List.flatMap_cons]
  · rw [List.drop_eq_getElem_cons hi, mergeL, if_neg hl1, if_pos hl2]
theorem up_chg {xs ys : List Pik} {i k : Nat} {a : List UInt8} (h : UpAt xs ys i k a) (hi : i < xs.length) (hk : k < ys.length) (h1 : ¬ xs[i].nm < ys[k].nm) (h2 : ¬ ys[k].nm < xs[i].nm) : UpAt xs ys (i + 1) (k + 1) (a ++ chgL xs[i] ys[k]) := by
  unfold UpAt at h ⊢
  rw [← h, List.append_assoc]
  congr 1
  conv => rhs; rw [List.drop_eq_getElem_cons hi, List.drop_eq_getElem_cons hk, mergeL, if_neg h1, if_neg h2]
theorem up_end {xs ys : List Pik} {i k : Nat} {a : List UInt8} (h : UpAt xs ys i k a) (hi : i = xs.length) (hk : k = ys.length) : a = mergeL xs ys := by
  subst hi hk
  unfold UpAt at h
  rw [← h, List.drop_length, List.drop_length, mergeL]
  simp
theorem up_len {xs ys : List Pik} {i k : Nat} {a : List UInt8} (h : UpAt xs ys i k a) {n : Nat} (hn : (mergeL xs ys).length ≤ n) : a.length ≤ n := by
  unfold UpAt at h
  rw [← h, List.length_append] at hn
  omega
theorem line_len9 {p : Pik} (h : p.ok = true) : p.line.length ≤ 70 ∧ p.v.show.length ≤ 45 := by
  have h1 := lineN_len h
  unfold lineN at h1
  rw [List.length_append] at h1
  exact ⟨by simp at h1; omega, vshow_len (pik_parts' h).2⟩
theorem merge_len : ∀ (xs ys : List Pik), (∀ p ∈ xs, p.ok = true) → (∀ p ∈ ys, p.ok = true) → (mergeL xs ys).length ≤ 130 * (xs.length + ys.length)
  | [], [], _, _ => by rw [mergeL]; simp
  | [], y :: ys, hx, hy => by
    have h1 := line_len9 (hy y List.mem_cons_self)
    have h2 := merge_len [] ys hx (fun p hp => hy p (List.mem_cons_of_mem _ hp))
    rw [mergeL] at h2
    rw [mergeL, List.flatMap_cons, List.length_append]
    simp [plusL] at h2 ⊢; omega
  | x :: xs, [], hx, hy => by
    have h1 := line_len9 (hx x List.mem_cons_self)
    have h2 : (xs.flatMap minusL).length ≤ 130 * xs.length := by
      have := merge_len xs [] (fun p hp => hx p (List.mem_cons_of_mem _ hp)) hy
      cases xs with
      | nil => simp
      | cons z zs => rw [mergeL] at this; simpa using this
    rw [mergeL, List.flatMap_cons, List.length_append]
    simp [minusL] at h2 ⊢; omega
  | x :: xs, y :: ys, hx, hy => by
    have hx2 : ∀ p ∈ xs, p.ok = true := fun p hp => hx p (List.mem_cons_of_mem _ hp)
    have hy2 : ∀ p ∈ ys, p.ok = true := fun p hp => hy p (List.mem_cons_of_mem _ hp)
    have h1 := line_len9 (hx x List.mem_cons_self)
    have h2 := line_len9 (hy y List.mem_cons_self)
    rw [mergeL]
    split
    · have := merge_len xs (y :: ys) hx2 hy
      rw [List.length_append]
      simp [minusL] at this ⊢; omega
    · split
      · have := merge_len (x :: xs) ys hx hy2
        rw [List.length_append]
        simp [plusL] at this ⊢; omega
      · have := merge_len xs ys hx2 hy2
        have hc : (chgL x y).length ≤ 130 := by
          unfold chgL
          split
          · simp; omega
          · split
            · simp; omega
            · simp
        rw [List.length_append]
        simp at this ⊢; omega
termination_by xs ys => xs.length + ys.length
end Go
