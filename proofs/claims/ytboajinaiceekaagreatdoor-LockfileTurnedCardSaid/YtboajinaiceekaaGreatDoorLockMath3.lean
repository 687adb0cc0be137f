/- Locks as texts, plainly: what the program's Parse looks at. -/
import Derived.Test.YtboajinaiceekaaGreatDoorLockMath2
import Derived.Test.YtboajinaiceekaaGreatDoorTextMath
namespace Go
/-! pieces, each with its end -/
theorem idx_at (c : UInt8) (y : List UInt8) : ∀ {x : List UInt8}, (∀ z ∈ x, z ≠ c) → Lib.index (x ++ c :: y) [c] = (x.length : Int) := by
  intro x hx
  rw [Lib.index_one]
  induction x with
  | nil => simp [Lib.indexByte]
  | cons a x ih =>
    have := ih (fun z hz => hx z (by simp [hz]))
    have ha := hx a (by simp)
    have hb : (a == c) = false := by simpa using ha
    rw [List.cons_append, Lib.indexByte, hb, this]
    have : ((x.length : Int) == -1) = false := by simp
    rw [this]
    simp
theorem splitA_lines : ∀ (ts : List (List UInt8)), (∀ t ∈ ts, ∀ c ∈ t, c ≠ 10) → Lib.splitK [10] 1 ts.length (flatN ts) = ts.map (fun t => t ++ [10]) ++ [[]]
  | [], _ => rfl
  | t :: ts, h => by
    rw [flatN_cons, List.length_cons]
    unfold Lib.splitK
    have : ((t.length : Int) == -1) = false := by simp
    rw [idx_at 10 _ (h t List.mem_cons_self), this]
    simp only [Int.toNat_natCast, List.length_singleton, Bool.false_eq_true, if_false]
    rw [show (t ++ 10 :: flatN ts).take (t.length + 1) = t ++ [10] by rw [List.take_append, List.take_of_length_le (by omega)]; simp, show (t ++ 10 :: flatN ts).drop (t.length + 1) = flatN ts by simp, splitA_lines ts (fun x hx => h x (List.mem_cons_of_mem _ hx))]
    rfl
theorem count_lines : ∀ (ts : List (List UInt8)), (∀ t ∈ ts, ∀ c ∈ t, c ≠ 10) → (flatN ts).count 10 = ts.length
  | [], _ => rfl
  | t :: ts, h => by
    rw [flatN_cons, List.count_append, List.count_cons_self, count_lines ts (fun x hx => h x (List.mem_cons_of_mem _ hx)), List.count_eq_zero.2 (fun hm => h t List.mem_cons_self 10 hm rfl), List.length_cons]
    omega
theorem lines_of : ∀ (n : Nat) (r : List UInt8), r.length ≤ n → (r = [] ∨ r.getLast? = some 10) → ∃ ts, r = flatN ts ∧ ∀ t ∈ ts, ∀ c ∈ t, c ≠ 10
  | _, [], _, _ => ⟨[], rfl, fun t ht => by cases ht⟩
  | 0, x :: r, h, _ => by simp at h
  | n + 1, x :: r, h, hl => by
    have hl : (x :: r).getLast? = some 10 := by rcases hl with hl | hl; cases hl; exact hl
    have hm : (10 : UInt8) ∈ x :: r := List.mem_of_getLast? hl
    obtain ⟨a, b, hab, ha⟩ : ∃ a b, x :: r = a ++ 10 :: b ∧ ∀ z ∈ a, z ≠ 10 := by
      clear hl h
      generalize x :: r = l at hm
      induction l with
      | nil => cases hm
      | cons y l ih =>
        by_cases hy : y = 10
        · subst hy; exact ⟨[], l, rfl, by simp⟩
        · obtain ⟨a, b, h1, h2⟩ := ih (by rcases List.mem_cons.1 hm with h | h; exact absurd h.symm hy; exact h)
          refine ⟨y :: a, b, by rw [h1]; rfl, fun z hz => ?_⟩
          rcases List.mem_cons.1 hz with rfl | h
          · exact hy
          · exact h2 z h
    have hb : b = [] ∨ b.getLast? = some 10 := by
      rcases List.eq_nil_or_concat b with rfl | ⟨b', z, rfl⟩
      · exact .inl rfl
      · right
        rw [hab, List.concat_eq_append] at hl
        rw [List.concat_eq_append]
        rw [show a ++ 10 :: (b' ++ [z]) = (a ++ 10 :: b') ++ [z] by simp, List.getLast?_concat] at hl
        rw [List.getLast?_concat]; exact hl
    have hlen : b.length ≤ n := by
      have := congrArg List.length hab
      simp only [List.length_cons, List.length_append] at this h
      omega
    obtain ⟨ts, rfl, hts⟩ := lines_of n b hlen hb
    refine ⟨a :: ts, by rw [hab, flatN_cons], fun t ht => ?_⟩
    rcases List.mem_cons.1 ht with rfl | ht
    · exact ha
    · exact hts t ht
theorem trimSuf (t : List UInt8) : Lib.trimSuffix (t ++ [10]) [10] = t := by
  unfold Lib.trimSuffix
  rw [if_pos (show Lib.hasSuffix (t ++ [10]) [10] = true from List.isSuffixOf_iff_suffix.2 ⟨t, rfl⟩)]
  simp
/-! what stands in a lock -/
def sumPre : List UInt8 := [10, 115, 117, 109, 32]
theorem body_last (k : List Pik) : ∃ u, bodyL k = u ++ [10] := by
  rcases List.eq_nil_or_concat k with rfl | ⟨k', p, rfl⟩
  · exact ⟨[108, 111, 99, 107, 32, 49], rfl⟩
  · refine ⟨headL ++ (k'.map lineN).flatten ++ p.line, ?_⟩
    unfold bodyL lineN
    simp
theorem bodyL_len (k : List Pik) : 7 ≤ (bodyL k).length := by unfold bodyL; rw [List.length_append]; simp [headL]
theorem body_flat (k : List Pik) : bodyL k = headL ++ flatN (k.map Pik.line) := by
  unfold bodyL flatN; rw [List.map_map]; rfl
theorem last_sum (k : List Pik) : Lib.lastIndex (lockL k) sumPre = (((bodyL k).length - 1 : Nat) : Int) := by
  obtain ⟨u, hu⟩ := body_last k
  have hl : lockL k = u ++ (sumPre ++ (hexK 8 (Crc.sum (bodyL k)) ++ [10])) := by
    unfold lockL sumL sumPre
    rw [hu]; simp
  have hb : (bodyL k).length - 1 = u.length := by rw [hu]; simp
  have hsz : (lockL k).length = u.length + 14 := by rw [hl]; simp [sumPre, hexK_length]
  have hocc : Lib.occAt (lockL k) sumPre u.length = true := by
    unfold Lib.occAt
    rw [hl, List.drop_left]
    simp
  have hno : ∀ j, u.length < j → j < u.length + 10 → Lib.occAt (lockL k) sumPre j = false := by
    intro j h1 h2
    obtain ⟨i, rfl⟩ : ∃ i, j = u.length + (i + 1) := ⟨j - u.length - 1, by omega⟩
    unfold Lib.occAt
    rw [hl, List.drop_append, List.drop_of_length_le (by omega), List.nil_append, show u.length + (i + 1) - u.length = i + 1 by omega]
    have hi : i < ([115, 117, 109, 32] ++ hexK 8 (Crc.sum (bodyL k))).length := by simp [hexK_length]; omega
    have e : (sumPre ++ (hexK 8 (Crc.sum (bodyL k)) ++ [10])).drop (i + 1) = ([115, 117, 109, 32] ++ hexK 8 (Crc.sum (bodyL k))).drop i ++ [10] := by
      unfold sumPre
      rw [List.cons_append, List.drop_succ_cons, ← List.append_assoc, List.drop_append_of_le_length (by omega)]
    rw [e, List.drop_eq_getElem_cons hi]
    have hc : ([115, 117, 109, 32] ++ hexK 8 (Crc.sum (bodyL k)))[i] ≠ 10 := by
      have hm := List.getElem_mem hi
      rw [List.mem_append] at hm
      rcases hm with hm | hm
      · intro h
        rw [h] at hm
        revert hm; decide
      · exact (hexK_mem _ _ _ hm).1
    unfold sumPre
    rw [List.cons_append]
    simp only [List.isPrefixOf]
    rw [show ((10 : UInt8) == ([115, 117, 109, 32] ++ hexK 8 (Crc.sum (bodyL k)))[i]) = false by rw [beq_eq_false_iff_ne]; exact fun h => hc h.symm]
    rfl
  unfold Lib.lastIndex
  rw [if_pos (by rw [hsz]; simp [sumPre]), hb, hsz, show sumPre.length = 5 from rfl, show u.length + 14 - 5 + 1 = u.length + 10 by omega]
  rcases Lib.lastOcc_spec (lockL k) sumPre (u.length + 10) with ⟨_, h⟩ | ⟨i, h1, h2, h3, h4⟩
  · rw [h u.length (by omega)] at hocc; cases hocc
  · rw [h2]
    by_cases hlt : i < u.length
    · rw [h4 u.length hlt (by omega)] at hocc; cases hocc
    · by_cases hgt : u.length < i
      · rw [hno i hgt h1] at h3; cases h3
      · rw [show i = u.length by omega]
/-- a text that passes the first looks -/
theorem lock_shape {l : List UInt8} {a : Nat} (hN : l.length = a + 14) (ho : Lib.occAt l sumPre a = true) (hl : l[a + 13]? = some 10) :
    l = l.take (a + 1) ++ ([115, 117, 109, 32] ++ (l.drop (a + 5)).take 8 ++ [10]) ∧ ∃ u, l.take (a + 1) = u ++ [10] ∧ u.length = a := by
  unfold Lib.occAt at ho
  rw [List.isPrefixOf_iff_prefix] at ho
  obtain ⟨y, hy⟩ := ho
  have h1 : l = l.take a ++ (sumPre ++ y) := by rw [hy, List.take_append_drop]
  have hta : (l.take a).length = a := by rw [List.length_take]; omega
  obtain ⟨u, hu⟩ : ∃ u, l.take a = u := ⟨_, rfl⟩
  rw [hu] at h1 hta
  have hyl : y.length = 9 := by
    have := congrArg List.length h1
    rw [List.length_append, List.length_append, hta, hN] at this
    simp [sumPre] at this; omega
  have hy9 : y = y.take 8 ++ [10] := by
    have h2 : y = y.take 8 ++ y.drop 8 := (List.take_append_drop 8 y).symm
    have h3 : y.drop 8 = [10] := by
      rw [h1, List.getElem?_append_right (by omega), List.getElem?_append_right (by simp [sumPre]; omega)] at hl
      simp only [hta] at hl
      rw [show a + 13 - a - sumPre.length = 8 by simp [sumPre]] at hl
      obtain ⟨h8, h10⟩ := List.getElem?_eq_some_iff.1 hl
      rw [List.drop_eq_getElem_cons h8, h10, List.drop_of_length_le (by omega)]
    rw [h3] at h2
    exact h2
  have ht1 : l.take (a + 1) = u ++ [10] := by
    rw [h1, List.take_append, List.take_of_length_le (by omega), hta]
    rw [show a + 1 - a = 1 by omega]; rfl
  have hd : (l.drop (a + 5)).take 8 = y.take 8 := by
    have e : l.drop (a + 5) = y := by
      rw [h1, List.drop_append, List.drop_of_length_le (by omega), hta, show a + 5 - a = 5 by omega]; rfl
    rw [e]
  refine ⟨?_, u, ht1, hta⟩
  rw [ht1, hd]
  conv => lhs; rw [h1, hy9]
  simp [sumPre]
/-- ahead of the sum: the head, then lines -/
theorem lock_lines {l u : List UInt8} {a : Nat} (hp : Lib.hasPrefix l headL = true) (ht : l.take (a + 1) = u ++ [10]) (hu : u.length = a) :
    6 ≤ a ∧ ∃ ts, (l.drop 7).take (a - 6) = flatN ts ∧ (∀ t ∈ ts, ∀ c ∈ t, c ≠ 10) ∧ l.take (a + 1) = headL ++ flatN ts := by
  unfold Lib.hasPrefix at hp
  rw [List.isPrefixOf_iff_prefix] at hp
  obtain ⟨r, rfl⟩ := hp
  have ha : 6 ≤ a := by
    apply Nat.le_of_not_lt
    intro h
    have h0 : ((headL ++ r).take (a + 1))[a]? = some 10 := by rw [ht, List.getElem?_append_right (by omega), hu, Nat.sub_self]; rfl
    rw [List.getElem?_take_of_lt (by omega), List.getElem?_append_left (by simp [headL]; omega)] at h0
    have h6 : a = 0 ∨ a = 1 ∨ a = 2 ∨ a = 3 ∨ a = 4 ∨ a = 5 := by omega
    rcases h6 with rfl | rfl | rfl | rfl | rfl | rfl <;> revert h0 <;> decide
  have hd : (headL ++ r).drop 7 = r := rfl
  have htk : (headL ++ r).take (a + 1) = headL ++ r.take (a - 6) := by
    rw [List.take_append, List.take_of_length_le (by simp [headL]; omega), show a + 1 - headL.length = a - 6 by simp [headL]]
  refine ⟨ha, ?_⟩
  rw [hd, htk]
  obtain ⟨ts, h1, h2⟩ := lines_of _ (r.take (a - 6)) (Nat.le_refl _) (by
    rcases List.eq_nil_or_concat (r.take (a - 6)) with h | ⟨x, z, h⟩
    · exact .inl h
    · right
      rw [htk, h, List.concat_eq_append, ← List.append_assoc] at ht
      have := (List.append_inj' ht rfl).2
      rw [h, List.concat_eq_append, List.getLast?_concat]
      injection this with this
      rw [this])
  exact ⟨ts, h1, h2, by rw [h1]⟩
/-- what a lock passes -/
theorem lock_facts (k : List Pik) : ∃ a, (lockL k).length = a + 14 ∧ Lib.lastIndex (lockL k) sumPre = (a : Int) ∧ Lib.hasPrefix (lockL k) headL = true ∧ (lockL k)[a + 13]? = some 10 ∧ (lockL k).take (a + 1) = bodyL k ∧ ((lockL k).drop (a + 5)).take 8 = hexK 8 (Crc.sum (bodyL k)) := by
  have hb := bodyL_len k
  have h13 := sumL_length (bodyL k)
  obtain ⟨b, hbb⟩ : ∃ b, bodyL k = b := ⟨_, rfl⟩
  have hL : lockL k = b ++ sumL b := by unfold lockL; rw [hbb]
  have hls := last_sum k
  rw [hbb] at hb h13 hls ⊢
  refine ⟨b.length - 1, by rw [hL, List.length_append]; omega, hls, ?_, ?_, ?_, ?_⟩
  · unfold Lib.hasPrefix
    rw [List.isPrefixOf_iff_prefix]
    refine ⟨flatN (k.map Pik.line) ++ sumL b, ?_⟩
    rw [hL, ← hbb, body_flat, List.append_assoc]
  · rw [hL, List.getElem?_append_right (by omega), show b.length - 1 + 13 - b.length = 12 by omega]
    unfold sumL
    rw [List.getElem?_append_right (by simp [hexK_length])]
    simp [hexK_length]
  · rw [hL, show b.length - 1 + 1 = b.length by omega, List.take_left]
  · rw [hL, List.drop_append, List.drop_of_length_le (by omega), List.nil_append, show b.length - 1 + 5 - b.length = 4 by omega]
    unfold sumL
    rw [List.append_assoc]
    show ((hexK 8 (Crc.sum b) ++ [10]).take 8) = _
    rw [List.take_append_of_le_length (by rw [hexK_length]; exact Nat.le_refl _), List.take_of_length_le (by rw [hexK_length]; exact Nat.le_refl _)]
theorem lockIs_no {s : List UInt8} (h : ∀ k, mayB k = true → lockL k ≠ s) : LockIs s [] 370 := .inr ⟨rfl, rfl, h⟩
theorem lockIs_yes {s : List UInt8} {k : List Pik} (h : mayB k = true) (hs : lockL k = s) : LockIs s k 0 := .inl ⟨rfl, h, hs⟩
end Go
