/- Locks, plainly: what leads from one to another. -/
import Derived.Test.YtboajinaiceekaaGreatDoorLockMath5
namespace Go
open Go.Lib
/-- a name's pick, by its place in the row -/
def pickOf (l : List Pik) (n : List UInt8) : Option Pik := l.find? fun p => p.nm == n
def chgL (x y : Pik) : List UInt8 :=
  if V4.cmp x.v y.v < 0 then [94, 32] ++ x.line ++ [32] ++ y.v.show ++ [10] else if 0 < V4.cmp x.v y.v then [118, 32] ++ x.line ++ [32] ++ y.v.show ++ [10] else []
def plusL (y : Pik) : List UInt8 := [43, 32] ++ y.line ++ [10]
def minusL (x : Pik) : List UInt8 := [45, 32] ++ x.line ++ [10]
/-- a name's line -/
def stepL (old now : List Pik) (n : List UInt8) : List UInt8 := match pickOf old n, pickOf now n with
  | none, none => []
  | none, some y => plusL y
  | some x, none => minusL x
  | some x, some y => chgL x y
def updNames (old now : List Pik) : List (List UInt8) := compact ((old.map Pik.nm ++ now.map Pik.nm).mergeSort fun x y => decide (x ≤ y))
def updL (old now : List Pik) : List UInt8 := (updNames old now).flatMap (stepL old now)
def updShow (old now : List Pik) : List UInt8 × Int := if mayB old && mayB now then (updL old now, 0) else ([], 370)
/-! two rows side by side -/
def mergeNames : List Pik → List Pik → List (List UInt8)
  | [], ys => ys.map Pik.nm
  | x :: xs, [] => (x :: xs).map Pik.nm
  | x :: xs, y :: ys => if x.nm < y.nm then x.nm :: mergeNames xs (y :: ys) else if y.nm < x.nm then y.nm :: mergeNames (x :: xs) ys else x.nm :: mergeNames xs ys
termination_by a b => a.length + b.length
def mergeL : List Pik → List Pik → List UInt8
  | [], ys => ys.flatMap plusL
  | x :: xs, [] => (x :: xs).flatMap minusL
  | x :: xs, y :: ys => if x.nm < y.nm then minusL x ++ mergeL xs (y :: ys) else if y.nm < x.nm then plusL y ++ mergeL (x :: xs) ys else chgL x y ++ mergeL xs ys
termination_by a b => a.length + b.length
/-- names strictly in order -/
def AscP (l : List Pik) : Prop := l.Pairwise fun a b => a.nm < b.nm
theorem may_asc {l : List Pik} (h : mayB l = true) : AscP l := by
  unfold mayB at h
  rw [Bool.and_eq_true] at h
  have hadj : ∀ k, k + 1 < l.length → (l[k]?.map Pik.nm).getD [] < (l[k + 1]?.map Pik.nm).getD [] := fun k hk => by
    have := may_rises h.1 hk
    rw [bLess] at this
    rw [List.getElem?_eq_getElem (by omega), List.getElem?_eq_getElem hk]
    exact of_decide_eq_true this
  have hall : ∀ d k, k + d + 1 < l.length → (l[k]?.map Pik.nm).getD [] < (l[k + d + 1]?.map Pik.nm).getD [] := by
    intro d
    induction d with
    | zero => intro k hk; exact hadj k hk
    | succ d ih => intro k hk; exact List.lt_trans (ih k (by omega)) (hadj (k + d + 1) hk)
  refine List.pairwise_iff_getElem.2 fun i j hi hj hij => ?_
  have := hall (j - i - 1) i (by omega)
  rw [show i + (j - i - 1) + 1 = j by omega, List.getElem?_eq_getElem hi, List.getElem?_eq_getElem hj] at this
  exact this
theorem mergeNames_mem : ∀ (xs ys : List Pik), ∀ n ∈ mergeNames xs ys, n ∈ xs.map Pik.nm ∨ n ∈ ys.map Pik.nm
  | [], ys, n, h => by rw [mergeNames] at h; exact .inr h
  | x :: xs, [], n, h => by rw [mergeNames] at h; exact .inl h
  | x :: xs, y :: ys, n, h => by
    rw [mergeNames] at h
    split at h
    · rcases List.mem_cons.1 h with rfl | h
      · exact .inl List.mem_cons_self
      · rcases mergeNames_mem xs (y :: ys) n h with h | h
        · exact .inl (List.mem_cons_of_mem _ h)
        · exact .inr h
    · split at h
      · rcases List.mem_cons.1 h with rfl | h
        · exact .inr List.mem_cons_self
        · rcases mergeNames_mem (x :: xs) ys n h with h | h
          · exact .inl h
          · exact .inr (List.mem_cons_of_mem _ h)
      · rcases List.mem_cons.1 h with rfl | h
        · exact .inl List.mem_cons_self
        · rcases mergeNames_mem xs ys n h with h | h
          · exact .inl (List.mem_cons_of_mem _ h)
          · exact .inr (List.mem_cons_of_mem _ h)
termination_by xs ys => xs.length + ys.length
theorem same_name {x y : Pik} (h1 : ¬ x.nm < y.nm) (h2 : ¬ y.nm < x.nm) : x.nm = y.nm := List.le_antisymm (List.not_lt.1 h2) (List.not_lt.1 h1)
theorem mergeNames_all : ∀ (xs ys : List Pik), ∀ n, (n ∈ xs.map Pik.nm ∨ n ∈ ys.map Pik.nm) → n ∈ mergeNames xs ys
  | [], ys, n, h => by rw [mergeNames]; rcases h with h | h; cases h; exact h
  | x :: xs, [], n, h => by rw [mergeNames]; rcases h with h | h; exact h; cases h
  | x :: xs, y :: ys, n, h => by
    rw [mergeNames]
    split
    · rcases h with h | h
      · rcases List.mem_cons.1 h with rfl | h
        · exact List.mem_cons_self
        · exact List.mem_cons_of_mem _ (mergeNames_all xs (y :: ys) n (.inl h))
      · exact List.mem_cons_of_mem _ (mergeNames_all xs (y :: ys) n (.inr h))
    · split
      · rcases h with h | h
        · exact List.mem_cons_of_mem _ (mergeNames_all (x :: xs) ys n (.inl h))
        · rcases List.mem_cons.1 h with rfl | h
          · exact List.mem_cons_self
          · exact List.mem_cons_of_mem _ (mergeNames_all (x :: xs) ys n (.inr h))
      · rename_i h1 h2
        have e := same_name h1 h2
        rcases h with h | h
        · rcases List.mem_cons.1 h with rfl | h
          · exact List.mem_cons_self
          · exact List.mem_cons_of_mem _ (mergeNames_all xs ys n (.inl h))
        · rcases List.mem_cons.1 h with rfl | h
          · rw [e]; exact List.mem_cons_self
          · exact List.mem_cons_of_mem _ (mergeNames_all xs ys n (.inr h))
termination_by xs ys => xs.length + ys.length
theorem asc_above {x : Pik} {xs : List Pik} (h : AscP (x :: xs)) : ∀ n ∈ xs.map Pik.nm, x.nm < n := by
  intro n hn
  obtain ⟨p, hp, rfl⟩ := List.mem_map.1 hn
  exact (List.pairwise_cons.1 h).1 p hp
theorem asc_map {xs : List Pik} (h : AscP xs) : Asc (xs.map Pik.nm) := List.pairwise_map.2 h
theorem all_above {x y : Pik} {ys : List Pik} (hy : AscP (y :: ys)) (h : x.nm < y.nm) : ∀ n ∈ (y :: ys).map Pik.nm, x.nm < n := by
  intro n hn
  rcases List.mem_cons.1 hn with rfl | hn
  · exact h
  · exact List.lt_trans h (asc_above hy n hn)
theorem mergeNames_asc : ∀ (xs ys : List Pik), AscP xs → AscP ys → Asc (mergeNames xs ys)
  | [], ys, _, hy => by rw [mergeNames]; exact asc_map hy
  | x :: xs, [], hx, _ => by rw [mergeNames]; exact asc_map hx
  | x :: xs, y :: ys, hx, hy => by
    have hx2 := (List.pairwise_cons.1 hx).2
    have hy2 := (List.pairwise_cons.1 hy).2
    rw [mergeNames]
    split
    · rename_i h
      refine List.pairwise_cons.2 ⟨fun n hn => ?_, mergeNames_asc xs (y :: ys) hx2 hy⟩
      rcases mergeNames_mem _ _ n hn with hn | hn
      · exact asc_above hx n hn
      · exact all_above hy h n hn
    · split
      · rename_i h
        refine List.pairwise_cons.2 ⟨fun n hn => ?_, mergeNames_asc (x :: xs) ys hx hy2⟩
        rcases mergeNames_mem _ _ n hn with hn | hn
        · exact all_above hx h n hn
        · exact asc_above hy n hn
      · rename_i h1 h2
        have e := same_name h1 h2
        refine List.pairwise_cons.2 ⟨fun n hn => ?_, mergeNames_asc xs ys hx2 hy2⟩
        rcases mergeNames_mem _ _ n hn with hn | hn
        · exact asc_above hx n hn
        · rw [e]; exact asc_above hy n hn
termination_by xs ys => xs.length + ys.length
theorem names_merge {old now : List Pik} (ho : AscP old) (hn : AscP now) : updNames old now = mergeNames old now := by
  obtain ⟨h1, h2⟩ := sort_names (old.map Pik.nm ++ now.map Pik.nm)
  refine asc_ext h2 (mergeNames_asc _ _ ho hn) fun x => ?_
  show x ∈ compact _ ↔ _
  rw [h1, List.mem_append]
  exact ⟨mergeNames_all _ _ x, mergeNames_mem _ _ x⟩
theorem pickOf_none {l : List Pik} {n : List UInt8} (h : ∀ m ∈ l.map Pik.nm, n < m) : pickOf l n = none := by
  unfold pickOf
  rw [List.find?_eq_none]
  intro p hp he
  have := h _ (List.mem_map_of_mem hp)
  rw [beq_iff_eq.1 he] at this
  exact List.lt_irrefl _ this
theorem pickOf_head (x : Pik) (xs : List Pik) : pickOf (x :: xs) x.nm = some x := by
  unfold pickOf
  rw [List.find?_cons_of_pos (by simp)]
theorem pickOf_skip {x : Pik} {xs : List Pik} {n : List UInt8} (h : x.nm < n) : pickOf (x :: xs) n = pickOf xs n := by
  unfold pickOf
  rw [List.find?_cons_of_neg]
  intro he
  rw [beq_iff_eq.1 he] at h
  exact List.lt_irrefl _ h
theorem flat_congr {f g : List UInt8 → List UInt8} : ∀ {l : List (List UInt8)}, (∀ n ∈ l, f n = g n) → l.flatMap f = l.flatMap g
  | [], _ => rfl
  | n :: l, h => by
    rw [List.flatMap_cons, List.flatMap_cons, h n List.mem_cons_self, flat_congr (fun m hm => h m (List.mem_cons_of_mem _ hm))]
theorem plus_all : ∀ (ys : List Pik), AscP ys → (ys.map Pik.nm).flatMap (stepL [] ys) = ys.flatMap plusL
  | [], _ => rfl
  | y :: ys, h => by
    rw [List.map_cons, List.flatMap_cons, List.flatMap_cons, ← plus_all ys (List.pairwise_cons.1 h).2]
    congr 1
    · unfold stepL; rw [pickOf_head]; rfl
    · refine flat_congr fun n hn => ?_
      unfold stepL; rw [pickOf_skip (asc_above h n hn)]
theorem minus_all : ∀ (xs : List Pik), AscP xs → (xs.map Pik.nm).flatMap (stepL xs []) = xs.flatMap minusL
  | [], _ => rfl
  | x :: xs, h => by
    rw [List.map_cons, List.flatMap_cons, List.flatMap_cons, ← minus_all xs (List.pairwise_cons.1 h).2]
    congr 1
    · unfold stepL; rw [pickOf_head]; rfl
    · refine flat_congr fun n hn => ?_
      unfold stepL; rw [pickOf_skip (asc_above h n hn)]
theorem merge_step : ∀ (xs ys : List Pik), AscP xs → AscP ys → (mergeNames xs ys).flatMap (stepL xs ys) = mergeL xs ys
  | [], ys, _, hy => by rw [mergeNames, mergeL, plus_all ys hy]
  | x :: xs, [], hx, _ => by rw [mergeNames, mergeL, minus_all _ hx]
  | x :: xs, y :: ys, hx, hy => by
    have hx2 := (List.pairwise_cons.1 hx).2
    have hy2 := (List.pairwise_cons.1 hy).2
    rw [mergeNames, mergeL]
    split
    · rename_i h
      rw [List.flatMap_cons, ← merge_step xs (y :: ys) hx2 hy]
      congr 1
      · unfold stepL; rw [pickOf_head, pickOf_none (all_above hy h)]
      · refine flat_congr fun n hn => ?_
        have hl : x.nm < n := by
          rcases mergeNames_mem _ _ n hn with hn | hn
          · exact asc_above hx n hn
          · exact all_above hy h n hn
        unfold stepL; rw [pickOf_skip hl]
    · split
      · rename_i h
        rw [List.flatMap_cons, ← merge_step (x :: xs) ys hx hy2]
        congr 1
        · unfold stepL; rw [pickOf_head, pickOf_none (all_above hx h)]
        · refine flat_congr fun n hn => ?_
          have hl : y.nm < n := by
            rcases mergeNames_mem _ _ n hn with hn | hn
            · exact all_above hx h n hn
            · exact asc_above hy n hn
          unfold stepL; rw [pickOf_skip hl]
      · rename_i h1 h2
        have e := same_name h1 h2
        rw [List.flatMap_cons, ← merge_step xs ys hx2 hy2]
        congr 1
        · unfold stepL; rw [pickOf_head, e, pickOf_head]
        · refine flat_congr fun n hn => ?_
          have hl : x.nm < n := by
            rcases mergeNames_mem _ _ n hn with hn | hn
            · exact asc_above hx n hn
            · rw [e]; exact asc_above hy n hn
          have hl2 : y.nm < n := by rw [← e]; exact hl
          unfold stepL; rw [pickOf_skip hl, pickOf_skip hl2]
termination_by xs ys => xs.length + ys.length
theorem upd_merge {old now : List Pik} (ho : mayB old = true) (hn : mayB now = true) : updL old now = mergeL old now := by
  unfold updL
  rw [names_merge (may_asc ho) (may_asc hn), merge_step _ _ (may_asc ho) (may_asc hn)]
end Go
