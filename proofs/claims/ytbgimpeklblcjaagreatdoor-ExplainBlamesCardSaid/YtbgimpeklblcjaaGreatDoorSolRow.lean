/- A row of numbers in a block of one's own. -/
import Derived.Test.YtbgimpeklblcjaaGreatDoorRefsS
namespace Go
open Go.RowKit
/-- numbers in a block of one's own -/
def RowN (g : Nat) (T : TypeId) (n : Nat) (f : Nat → Nat) (W : World) : Prop := ∃ cur : Array Value, W.heap[g]? = some (.cells cur T (0, 0)) ∧ n ≤ cur.size ∧ ∀ j, j < n → cur[j]? = some (.int .i64 (f j : Int))
theorem RowN.cell {g : Nat} {T : TypeId} {n : Nat} {f : Nat → Nat} {W : World} (h : RowN g T n f W) {i : Nat} (hi : i < n) : W.cell? ⟨g, i, none⟩ = some (.int .i64 (f i : Int)) := by
 obtain ⟨c, hb, _, hc⟩ := h
 simp [World.cell?, hb, hc i hi]
theorem RowN.free {g : Nat} {T : TypeId} {n : Nat} {f : Nat → Nat} {W : World} (h : RowN g T n f W) (i : Nat) : W.frozen? ⟨g, i, none⟩ = false := by
 obtain ⟨c, hb, _, _⟩ := h
 simp [World.frozen?, hb]
theorem RowN.lt {g : Nat} {T : TypeId} {n : Nat} {f : Nat → Nat} {W : World} (h : RowN g T n f W) : g < W.heap.size := by
 obtain ⟨c, hb, _, _⟩ := h; exact lt_of_block hb
theorem RowN.on {g : Nat} {T : TypeId} {n : Nat} {f : Nat → Nat} {W W' : World} (h : RowN g T n f W) (hb : Below W.heap.size W W') : RowN g T n f W' := by
 have hl := h.lt
 obtain ⟨c, h1, h2, h3⟩ := h
 exact ⟨c, (hb.block g hl).trans h1, h2, h3⟩
theorem RowN.set {g : Nat} {T : TypeId} {n : Nat} {f : Nat → Nat} {W : World} (h : RowN g T n f W) {i : Nat} (a : Nat) {v : Int} (hv : v = (a : Int)) {f' : Nat → Nat} (hf : ∀ j, j < n → f' j = if j = i then a else f j) : RowN g T n f' (W.setCell ⟨g, i, none⟩ (.int .i64 v)) := by
 subst hv
 obtain ⟨c, hb, hn, hc⟩ := h
 refine ⟨c.setIfInBounds i (.int .i64 (a : Int)), by simp [World.setCell, Array.getElem?_modify, hb], by simpa using hn, fun j hj => ?_⟩
 rw [Array.getElem?_setIfInBounds, hf j hj]
 by_cases e : j = i
 ·subst e
  rw [if_pos rfl, if_pos rfl, if_pos (by omega)]
 ·rw [if_neg (fun h => e h.symm), if_neg e, hc j hj]
theorem RowN.of {g : Nat} {T : TypeId} {n : Nat} {ws : List Nat} {W : World} {cur : Array Value} (hb : W.heap[g]? = some (.cells cur T (0, 0))) (hl : ws.length = n) (ht : cur.toList.take n = ws.map fun a : Nat => Value.int .i64 (a : Int)) : RowN g T n (fun j => if j < n then ws.getD j 0 else 0) W := by
 have hs : n ≤ cur.size := by
  have := congrArg List.length ht
  rw [List.length_take, List.length_map, hl] at this
  simp at this; omega
 refine ⟨cur, hb, hs, fun j hj => ?_⟩
 have h1 : (cur.toList.take n)[j]? = cur[j]? := by rw [List.getElem?_take, if_pos hj, Array.getElem?_toList]
 rw [← h1, ht, List.getElem?_map, List.getElem?_eq_getElem (by omega)]
 simp only [Option.map_some]
 rw [if_pos hj, List.getD_eq_getElem?_getD, List.getElem?_eq_getElem (by omega)]; rfl
theorem ks_at' {ts : List DPack} {needs : List (Want × Value)} {i : Nat} (h : i < ts.length) : (ksOf (askN needs) (ppL ts))[i]? = some (ts[i].os.length + if askN needs (namL (ppL ts) i) = true then 0 else 1) := by
 have h1 : i < (ppL ts).length := by rw [ppL_len]; exact h
 rw [ksOf_at h1, ← namL_at h1, ppL_at h1 h]
 show some ((List.map DOff.po ts[i].os).length + _) = _
 rw [List.length_map]
theorem RowN.row {g : Nat} {T : TypeId} {n cap : Nat} {f : Nat → Nat} {W : World} (h : RowN g T n f W) {ws : List Nat} (hl : ws.length = n) (hw : ∀ j (hj : j < ws.length), ws[j] = f j) (h0 : 0 < n) (hm : n ≤ maxLen) : WayRow W (.slice (some ⟨g, 0, none⟩) n cap) ws := by
 subst hl
 refine ⟨by simp, hm, .inr ⟨g, 0, cap, rfl, h0, h.lt, fun j hj => ?_⟩⟩
 have hj' : j < ws.length := by omega
 rw [Nat.zero_add, h.cell hj', List.getElem?_map, List.getElem?_eq_getElem hj', hw j hj']; rfl
end Go
