/- Locks as texts, plainly: lines; what was written is read as it was; nothing may stand behind; one byte that is another one is seen. -/
import Derived.Test.YtboajinaiceekaaGreatDoorLockMath
import Derived.Lib.LastIndexLaws
namespace Go
/-- lines, each with its end -/
def flatN (ts : List (List UInt8)) : List UInt8 := (ts.map fun t => t ++ [10]).flatten
theorem flatN_cons (t : List UInt8) (ts : List (List UInt8)) : flatN (t :: ts) = t ++ 10 :: flatN ts := by simp [flatN]
theorem flatN_app (a b : List (List UInt8)) : flatN (a ++ b) = flatN a ++ flatN b := by simp [flatN]
theorem sep_lines : ∀ (ts : List (List UInt8)) (r : List UInt8), (∀ t ∈ ts, ∀ c ∈ t, c ≠ 10) → sepAt 10 (flatN ts ++ r) = ts ++ sepAt 10 r
  | [], r, _ => rfl
  | t :: ts, r, h => by
    rw [flatN_cons, List.append_assoc, List.cons_append, sepAt_app _ (h t List.mem_cons_self), sep_lines ts r (fun x hx => h x (List.mem_cons_of_mem _ hx))]
    rfl
theorem sepAt_nil (c : UInt8) : sepAt c [] = [[]] := sepAt_none (fun x hx => by cases hx)
theorem sep_lines0 (ts : List (List UInt8)) (h : ∀ t ∈ ts, ∀ c ∈ t, c ≠ 10) : sepAt 10 (flatN ts) = ts ++ [[]] := by
  have := sep_lines ts [] h
  rwa [List.append_nil, sepAt_nil] at this
theorem flatN_inj {a b : List (List UInt8)} (ha : ∀ t ∈ a, ∀ c ∈ t, c ≠ 10) (hb : ∀ t ∈ b, ∀ c ∈ t, c ≠ 10) (h : flatN a = flatN b) : a = b := by
  have h1 := sep_lines0 a ha
  rw [h, sep_lines0 b hb] at h1
  exact (List.append_inj' h1 rfl).1.symm
theorem flatN_pre {a b : List (List UInt8)} {r : List UInt8} (ha : ∀ t ∈ a, ∀ c ∈ t, c ≠ 10) (hb : ∀ t ∈ b, ∀ c ∈ t, c ≠ 10) (h : flatN a ++ r = flatN b) : ∃ c, b = a ++ c ∧ (c = [] → r = []) := by
  have h1 := sep_lines a r ha
  rw [h, sep_lines0 b hb] at h1
  have h2 : (sepAt 10 r) ≠ [] := sepAt_ne 10 r
  refine ⟨(sepAt 10 r).dropLast, ?_, fun hc => ?_⟩
  · have h3 := congrArg List.dropLast h1
    rw [List.dropLast_concat, List.dropLast_append_of_ne_nil h2] at h3
    exact h3
  · have hl := congrArg List.length hc
    rw [List.length_dropLast, List.length_nil, sepAt_count] at hl
    have h0 : r.count 10 = 0 := by omega
    have hn : ∀ x ∈ r, x ≠ 10 := fun x hx e => by
      subst e
      have := List.count_pos_iff.2 hx
      omega
    rw [sepAt_none hn] at h1
    have h3 := congrArg List.getLast? h1
    rw [List.getLast?_concat, List.getLast?_concat] at h3
    injection h3 with h3
    exact h3.symm
theorem part_at {c : UInt8} : ∀ {n m s t : List UInt8}, (∀ x ∈ n, x ≠ c) → (∀ x ∈ m, x ≠ c) → n ++ c :: s = m ++ c :: t → n = m ∧ s = t
  | [], [], s, t, _, _, h => ⟨rfl, by injection h⟩
  | [], b :: m, s, t, _, hm, h => by injection h with h; exact absurd h.symm (hm b List.mem_cons_self)
  | a :: n, [], s, t, hn, _, h => by injection h with h; exact absurd h (hn a List.mem_cons_self)
  | a :: n, b :: m, s, t, hn, hm, h => by
    injection h with h1 h2
    obtain ⟨e1, e2⟩ := part_at (fun x hx => hn x (List.mem_cons_of_mem _ hx)) (fun x hx => hm x (List.mem_cons_of_mem _ hx)) h2
    exact ⟨by rw [h1, e1], e2⟩
/-! the lines of a lock -/
def sumLine (b : List UInt8) : List UInt8 := [115, 117, 109, 32] ++ hexK 8 (Crc.sum b)
def lockLines (l : List Pik) : List (List UInt8) := [108, 111, 99, 107, 32, 49] :: (l.map Pik.line ++ [sumLine (bodyL l)])
theorem lock_flat (l : List Pik) : lockL l = flatN (lockLines l) := by
  unfold lockLines
  rw [flatN_cons, flatN_app]
  have h1 : flatN (l.map Pik.line) = (l.map lineN).flatten := by unfold flatN; rw [List.map_map]; rfl
  rw [h1]
  unfold lockL bodyL headL
  simp [flatN, sumLine, sumL]
theorem pik_parts {p : Pik} (h : p.ok = true) : nameOk p.nm = true ∧ p.v.ok = true := by unfold Pik.ok at h; simpa using h
theorem show_gt {v : V4} (h : v.ok = true) : ∀ c ∈ v.show, 44 < c.toNat := ver_gt (⟨h, rfl⟩ : v.IsShow v.show)
theorem line_no {p : Pik} (h : p.ok = true) : ∀ c ∈ p.line, c ≠ 10 := by
  obtain ⟨h1, h2⟩ := pik_parts h
  intro c hc
  unfold Pik.line at hc
  rw [List.mem_append, List.mem_cons] at hc
  rcases hc with hc | rfl | hc
  · exact name_no h1 10 (by decide) c hc
  · decide
  · have := show_gt h2 c hc
    rintro rfl
    exact absurd this (by decide)
theorem may_all {l : List Pik} (h : mayB l = true) : (∀ p ∈ l, p.ok = true) ∧ l.length ≤ 40 := by
  unfold mayB at h
  rw [Bool.and_eq_true, decide_eq_true_eq] at h
  refine ⟨fun p hp => ?_, h.2⟩
  obtain ⟨k, hk, rfl⟩ := List.getElem_of_mem hp
  exact may_ok h.1 hk
theorem lock_no {l : List Pik} (h : mayB l = true) : ∀ t ∈ lockLines l, ∀ c ∈ t, c ≠ 10 := by
  intro t ht
  unfold lockLines at ht
  rw [List.mem_cons, List.mem_append, List.mem_map, List.mem_singleton] at ht
  rcases ht with rfl | ⟨p, hp, rfl⟩ | rfl
  · decide
  · exact line_no ((may_all h).1 p hp)
  · intro c hc
    unfold sumLine at hc
    rw [List.mem_append] at hc
    rcases hc with hc | hc
    · revert c; decide
    · exact (hexK_mem _ _ c hc).1
theorem line_inj {p q : Pik} (hp : p.ok = true) (hq : q.ok = true) (h : p.line = q.line) : p = q := by
  obtain ⟨h1, h2⟩ := pik_parts hp
  obtain ⟨g1, g2⟩ := pik_parts hq
  obtain ⟨e1, e2⟩ := part_at (name_no h1 32 (by decide)) (name_no g1 32 (by decide)) h
  have e3 := V4.isShow_inj (⟨h2, e2⟩ : p.v.IsShow q.v.show) ⟨g2, rfl⟩
  obtain ⟨n, v⟩ := p
  obtain ⟨m, u⟩ := q
  simp only at e3
  subst e3
  have : n = m := ByteArray.ext (Array.toList_inj.1 e1)
  subst this; rfl
theorem lines_inj : ∀ {a b : List Pik}, (∀ p ∈ a, p.ok = true) → (∀ p ∈ b, p.ok = true) → a.map Pik.line = b.map Pik.line → a = b
  | [], [], _, _, _ => rfl
  | [], q :: b, _, _, h => by cases h
  | p :: a, [], _, _, h => by cases h
  | p :: a, q :: b, ha, hb, h => by
    rw [List.map_cons, List.map_cons] at h
    injection h with h1 h2
    rw [line_inj (ha p List.mem_cons_self) (hb q List.mem_cons_self) h1, lines_inj (fun x hx => ha x (List.mem_cons_of_mem _ hx)) (fun x hx => hb x (List.mem_cons_of_mem _ hx)) h2]
theorem lock_inj {k l : List Pik} (hk : mayB k = true) (hl : mayB l = true) (h : lockL k = lockL l) : k = l := by
  rw [lock_flat, lock_flat] at h
  have h1 := flatN_inj (lock_no hk) (lock_no hl) h
  unfold lockLines at h1
  injection h1 with _ h1
  exact lines_inj (may_all hk).1 (may_all hl).1 (List.append_inj' h1 rfl).1
theorem LockIs.uniq {s : List UInt8} {l l' : List Pik} {e e' : Int} (h : LockIs s l e) (h' : LockIs s l' e') : l = l' ∧ e = e' := by
  rcases h with ⟨rfl, h1, h2⟩ | ⟨rfl, rfl, h⟩ <;> rcases h' with ⟨rfl, g1, g2⟩ | ⟨rfl, rfl, g⟩
  · exact ⟨lock_inj h1 g1 (h2.trans g2.symm), rfl⟩
  · exact absurd h2 (g _ h1)
  · exact absurd g2 (h _ g1)
  · exact ⟨rfl, rfl⟩
theorem show_dot (v : V4) : (46 : UInt8) ∈ v.show := by
  unfold V4.show showL showCore
  split <;> simp
/-- nothing may stand behind a lock -/
theorem lock_pre {k l : List Pik} {r : List UInt8} (hk : mayB k = true) (hl : mayB l = true) (h : lockL k ++ r = lockL l) : r = [] := by
  rw [lock_flat, lock_flat] at h
  obtain ⟨c, h1, h2⟩ := flatN_pre (lock_no hk) (lock_no hl) h
  apply h2
  cases hc : c with
  | nil => rfl
  | cons x y =>
    exfalso
    subst hc
    unfold lockLines at h1
    rw [List.cons_append] at h1
    injection h1 with _ h1
    rw [List.append_assoc, List.singleton_append] at h1
    have h3 := congrArg (fun z => z[k.length]?) h1.symm
    rw [List.getElem?_append_right (by rw [List.length_map]; exact Nat.le_refl _), List.length_map, Nat.sub_self] at h3
    have hlen := congrArg List.length h1
    simp only [List.length_append, List.length_map, List.length_cons, List.length_nil] at hlen
    rw [List.getElem?_append_left (by rw [List.length_map]; omega), List.getElem?_map, List.getElem?_eq_getElem (show k.length < l.length by omega)] at h3
    simp only [Option.map_some, List.getElem?_cons_zero, Option.some.injEq] at h3
    obtain ⟨g1, g2⟩ := pik_parts ((may_all hl).1 _ (List.getElem_mem (show k.length < l.length by omega)))
    have h4 : (Pik.nm l[k.length]) ++ 32 :: (l[k.length]).v.show = [115, 117, 109] ++ 32 :: hexK 8 (Crc.sum (bodyL k)) := h3.symm
    have h5 := (part_at (name_no g1 32 (by decide)) (by decide) h4).2
    have h6 := show_dot (l[k.length]).v
    rw [h5] at h6
    exact (hexK_mem _ _ _ h6).2.2.1 rfl
/-- one byte that is another one is seen -/
theorem lock_turn {k l : List Pik} {u z : List UInt8} {x y : UInt8} (h1 : lockL k = u ++ x :: z) (h2 : lockL l = u ++ y :: z) : x = y := by
  have hlen : (bodyL k).length = (bodyL l).length := by
    have e1 := congrArg List.length h1
    have e2 := congrArg List.length h2
    unfold lockL at e1 e2
    rw [List.length_append, sumL_length] at e1 e2
    simp only [List.length_append, List.length_cons] at e1 e2
    omega
  obtain ⟨N, hN⟩ : ∃ N, (bodyL k).length = N := ⟨_, rfl⟩
  have hN' : (bodyL l).length = N := by rw [← hlen, hN]
  have t1 : bodyL k = (u ++ x :: z).take N := by rw [← h1, ← hN]; unfold lockL; rw [List.take_left]
  have t2 : bodyL l = (u ++ y :: z).take N := by rw [← h2, ← hN']; unfold lockL; rw [List.take_left]
  have s1 : sumL (bodyL k) = (u ++ x :: z).drop N := by rw [← h1, ← hN]; unfold lockL; rw [List.drop_left]
  have s2 : sumL (bodyL l) = (u ++ y :: z).drop N := by rw [← h2, ← hN']; unfold lockL; rw [List.drop_left]
  by_cases hu : u.length < N
  · obtain ⟨m, rfl⟩ : ∃ m, N = u.length + (m + 1) := ⟨N - u.length - 1, by omega⟩
    have b1 : bodyL k = u ++ x :: z.take m := by rw [t1, List.take_append, List.take_of_length_le (by omega)]; simp
    have b2 : bodyL l = u ++ y :: z.take m := by rw [t2, List.take_append, List.take_of_length_le (by omega)]; simp
    have s3 : sumL (bodyL k) = sumL (bodyL l) := by
      rw [s1, s2, List.drop_append, List.drop_append]
      simp
    unfold sumL at s3
    have s4 := (List.append_inj' s3 rfl).1
    have s5 := (List.append_inj s4 rfl).2
    have s6 := hexK_inj 8 _ _ (by have := Crc.sum_lt (bodyL k); omega) (by have := Crc.sum_lt (bodyL l); omega) s5
    rw [b1, b2] at s6
    exact Crc.sum_one s6
  · have b : bodyL k = bodyL l := by
      rw [t1, t2, List.take_append_of_le_length (by omega), List.take_append_of_le_length (by omega)]
    have : lockL k = lockL l := by unfold lockL; rw [b]
    rw [h1, h2] at this
    have := List.append_cancel_left this
    injection this
end Go
