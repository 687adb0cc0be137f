/- Locks as texts, plainly: lines that are read, one behind another. -/
import Derived.Test.YtboajinaiceekaaGreatDoorLockPlain
import Derived.Test.YtboajinaiceekaaGreatDoorLock5
namespace Go
theorem cut32_app : ∀ {n t : List UInt8}, (∀ x ∈ n, x ≠ 32) → headAt 32 (n ++ 32 :: t) = n ∧ tailAt 32 (n ++ 32 :: t) = t
  | [], t, _ => by simp [headAt, tailAt, notC]
  | a :: n, t, h => by
    obtain ⟨h1, h2⟩ := cut32_app (n := n) (t := t) (fun x hx => h x (List.mem_cons_of_mem _ hx))
    have ha : notC 32 a = true := by have := h a List.mem_cons_self; simpa [notC] using this
    simp only [headAt, tailAt] at h1 h2 ⊢
    rw [List.cons_append, List.takeWhile_cons_of_pos ha, List.dropWhile_cons_of_pos ha, h1, h2]
    exact ⟨rfl, rfl⟩
theorem cut32_tail {l : List UInt8} (h : tailAt 32 l ≠ []) : l = headAt 32 l ++ 32 :: tailAt 32 l := by
  induction l with
  | nil => exact absurd rfl h
  | cons a l ih =>
    by_cases ha : a = 32
    · subst ha; simp [headAt, tailAt, notC]
    · have hn : notC 32 a = true := by simpa [notC] using ha
      unfold tailAt at h
      unfold headAt tailAt at ih ⊢
      rw [List.dropWhile_cons_of_pos hn] at h
      rw [List.takeWhile_cons_of_pos hn, List.dropWhile_cons_of_pos hn, List.cons_append, ← ih h]
theorem cut32_head (l : List UInt8) : ∀ c ∈ headAt 32 l, c ≠ 32 := by
  intro c hc
  unfold headAt at hc
  have h := List.all_eq_true.1 (List.all_takeWhile (p := notC 32) (l := l)) c hc
  unfold notC at h
  exact of_decide_eq_true h
/-- what the first k lines were read as -/
def PickTo (ts : List (List UInt8)) (k : Nat) (ps : List Pik) : Prop := ps.map Pik.line = ts.take k ∧ ∀ p ∈ ps, p.v.ok = true ∧ ∀ c ∈ p.nm, c ≠ 32
theorem pickTo_zero (ts : List (List UInt8)) : PickTo ts 0 [] := ⟨rfl, fun p hp => by cases hp⟩
theorem pickTo_succ {ts : List (List UInt8)} {k : Nat} {ps : List Pik} {v : V4} (h : PickTo ts k ps) (hk : k < ts.length) (hv : v.IsShow (tailAt 32 ts[k])) : PickTo ts (k + 1) (ps ++ [⟨S (headAt 32 ts[k]), v⟩]) := by
  obtain ⟨h1, h2⟩ := h
  have hne : tailAt 32 ts[k] ≠ [] := fun e => by
    have := show_dot v
    rw [hv.2, e] at this
    cases this
  refine ⟨?_, fun p hp => ?_⟩
  · rw [List.map_append, h1, List.take_succ_eq_append_getElem hk]
    congr 1
    show [headAt 32 ts[k] ++ 32 :: v.show] = [ts[k]]
    rw [hv.2, ← cut32_tail hne]
  · rw [List.mem_append, List.mem_singleton] at hp
    rcases hp with hp | rfl
    · exact h2 p hp
    · exact ⟨hv.1, cut32_head _⟩
theorem pick_one {p q : Pik} (hp : p.v.ok = true ∧ ∀ c ∈ p.nm, c ≠ 32) (hq : q.ok = true) (h : p.line = q.line) : p = q := by
  obtain ⟨g1, g2⟩ := pik_parts hq
  obtain ⟨e1, e2⟩ := part_at hp.2 (name_no g1 32 (by decide)) h
  have e3 := V4.isShow_inj (⟨hp.1, e2⟩ : p.v.IsShow q.v.show) ⟨g2, rfl⟩
  obtain ⟨n, v⟩ := p
  obtain ⟨m, u⟩ := q
  simp only at e3
  subst e3
  have : n = m := ByteArray.ext (Array.toList_inj.1 e1)
  subst this; rfl
theorem pick_all : ∀ {a b : List Pik}, (∀ p ∈ a, p.v.ok = true ∧ ∀ c ∈ p.nm, c ≠ 32) → (∀ p ∈ b, p.ok = true) → a.map Pik.line = b.map Pik.line → a = b
  | [], [], _, _, _ => rfl
  | [], q :: b, _, _, h => by cases h
  | p :: a, [], _, _, h => by cases h
  | p :: a, q :: b, ha, hb, h => by
    rw [List.map_cons, List.map_cons] at h
    injection h with h1 h2
    rw [pick_one (ha p List.mem_cons_self) (hb q List.mem_cons_self) h1, pick_all (fun x hx => ha x (List.mem_cons_of_mem _ hx)) (fun x hx => hb x (List.mem_cons_of_mem _ hx)) h2]
/-- a lock with these lines has them -/
theorem lines_eq {k : List Pik} {s : List UInt8} {a : Nat} {ts : List (List UInt8)} (hk : mayB k = true) (hs : lockL k = s) (ha : s.length = a + 14)
    (ht : s.take (a + 1) = headL ++ flatN ts) (hts : ∀ t ∈ ts, ∀ c ∈ t, c ≠ 10) : k.map Pik.line = ts := by
  subst hs
  obtain ⟨a', h1, _, _, _, h5, _⟩ := lock_facts k
  obtain rfl : a' = a := by omega
  rw [h5, body_flat] at ht
  refine flatN_inj (fun t hm => ?_) hts (List.append_cancel_left ht)
  rw [List.mem_map] at hm
  obtain ⟨p, hp, rfl⟩ := hm
  exact line_no ((may_all hk).1 p hp)
theorem lock_bad_line {s : List UInt8} {a j : Nat} {ts : List (List UInt8)} (ha : s.length = a + 14) (ht : s.take (a + 1) = headL ++ flatN ts) (hts : ∀ t ∈ ts, ∀ c ∈ t, c ≠ 10) (hj : j < ts.length)
    (hv : ∀ x y z p, ¬ IsShow x y z p (tailAt 32 ts[j])) : LockIs s [] 370 := lockIs_no fun k hk hs => by
  have h := lines_eq hk hs ha ht hts
  subst h
  rw [List.length_map] at hj
  rw [List.getElem_map] at hv
  obtain ⟨g1, g2⟩ := pik_parts ((may_all hk).1 _ (List.getElem_mem hj))
  have e : tailAt 32 (k[j]).line = (k[j]).v.show := (cut32_app (name_no g1 32 (by decide))).2
  rw [e] at hv
  exact hv _ _ _ _ ⟨g2, rfl⟩
theorem lock_bad_may {s : List UInt8} {a : Nat} {ts : List (List UInt8)} {ps : List Pik} (ha : s.length = a + 14) (ht : s.take (a + 1) = headL ++ flatN ts) (hts : ∀ t ∈ ts, ∀ c ∈ t, c ≠ 10)
    (hp : PickTo ts ts.length ps) (hm : mayB ps = false) : LockIs s [] 370 := lockIs_no fun k hk hs => by
  have h := lines_eq hk hs ha ht hts
  obtain ⟨h1, h2⟩ := hp
  rw [List.take_length, ← h] at h1
  have := pick_all h2 (may_all hk).1 h1
  rw [this, hk] at hm
  cases hm
theorem lock_good {s : List UInt8} {a : Nat} {ts : List (List UInt8)} {ps : List Pik} (hs : s = s.take (a + 1) ++ ([115, 117, 109, 32] ++ (s.drop (a + 5)).take 8 ++ [10])) (ht : s.take (a + 1) = headL ++ flatN ts)
    (hx : hexK 8 (Crc.sum (s.take (a + 1))) = (s.drop (a + 5)).take 8) (hp : PickTo ts ts.length ps) (hm : mayB ps = true) : LockIs s ps 0 := by
  refine lockIs_yes hm ?_
  have hb : bodyL ps = s.take (a + 1) := by
    rw [body_flat, hp.1, List.take_length, ht]
  unfold lockL sumL
  rw [hb, hx]
  exact hs.symm
/-- the looks that fail -/
theorem lock_bad_pre {s : List UInt8} (h : Lib.hasPrefix s headL = false) : LockIs s [] 370 := lockIs_no fun k _ hs => by
  subst hs
  obtain ⟨a, _, _, h3, _⟩ := lock_facts k
  rw [h3] at h; cases h
theorem lock_bad_at {s : List UInt8} (h : Lib.lastIndex s sumPre = -1) : LockIs s [] 370 := lockIs_no fun k _ hs => by
  subst hs
  obtain ⟨a, _, h2, _⟩ := lock_facts k
  rw [h2] at h; omega
theorem lock_bad_len {s : List UInt8} {a : Nat} (h : Lib.lastIndex s sumPre = (a : Int)) (hn : s.length ≠ a + 14) : LockIs s [] 370 := lockIs_no fun k _ hs => by
  subst hs
  obtain ⟨b, h1, h2, _⟩ := lock_facts k
  rw [h2] at h
  exact hn (by omega)
theorem lock_bad_end {s : List UInt8} {a : Nat} (ha : s.length = a + 14) (h : s[a + 13]? ≠ some 10) : LockIs s [] 370 := lockIs_no fun k _ hs => by
  subst hs
  obtain ⟨b, h1, _, _, h4, _⟩ := lock_facts k
  obtain rfl : b = a := by omega
  exact h h4
theorem lock_bad_sum {s : List UInt8} {a n : Nat} {ok : Bool} (ha : s.length = a + 14) (h : ValIs ((s.drop (a + 5)).take 8) n ok) (hb : ok = false ∨ n ≠ Crc.sum (s.take (a + 1))) : LockIs s [] 370 := lockIs_no fun k _ hs => by
  subst hs
  obtain ⟨b, h1, _, _, _, h5, h6⟩ := lock_facts k
  obtain rfl : b = a := by omega
  rw [h6] at h
  rw [h5] at hb
  rcases h with ⟨rfl, hn, he⟩ | ⟨_, _, h⟩
  · have := hexK_inj 8 _ _ (by omega) (by have := Crc.sum_lt (bodyL k); omega) he
    rcases hb with hb | hb
    · cases hb
    · exact hb this
  · exact h _ rfl
/-- where the last such place is -/
theorem last_at (s : List UInt8) : Lib.lastIndex s sumPre = -1 ∨ ∃ a : Nat, Lib.lastIndex s sumPre = (a : Int) ∧ a + 5 ≤ s.length ∧ Lib.occAt s sumPre a = true := by
  unfold Lib.lastIndex
  by_cases h : sumPre.length ≤ s.length
  · rw [if_pos h]
    rcases Lib.lastOcc_spec s sumPre (s.length - sumPre.length + 1) with ⟨h1, _⟩ | ⟨i, h1, h2, h3, _⟩
    · exact .inl h1
    · refine .inr ⟨i, h2, ?_, h3⟩
      simp [sumPre] at h h1; omega
  · rw [if_neg h]; exact .inl rfl
end Go
