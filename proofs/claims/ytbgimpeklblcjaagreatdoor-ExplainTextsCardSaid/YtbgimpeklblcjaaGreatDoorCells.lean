/- How a slice value reads: a row of cells. Small laws for the walks. -/
import Derived.Test.YtbgimpeklblcjaaGreatDoorBase
import Derived.Laws.OwnMore
import Derived.Lib.SmallJoins
import Derived.WalkSmall
import Derived.StillTailTactics
import Derived.Deep.QuietTactic
import Derived.Lib.Hide
namespace Go
open Go.RowKit
/-- the slice value v leads to n elements of 'size' cells each, which hold xs -/
def Row (w : World) (size : Nat) (v : Value) (n : Nat) (xs : List Value) : Prop :=
 xs.length = n * size ∧ n ≤ maxLen ∧
 ((∃ a cap, v = .slice a 0 cap ∧ n = 0 ∧ (a = none → cap = 0)) ∨
  ∃ b off cap, v = .slice (some ⟨b, off, none⟩) n cap ∧ 0 < n ∧ b < w.heap.size ∧ ∀ j, j < n * size → w.cell? ⟨b, off + j, none⟩ = xs[j]?)
theorem Row.below {w w' : World} {size : Nat} {v : Value} {n : Nat} {xs : List Value} (h : Row w size v n xs) {B : Nat} (hb : Below B w w') (hB : w.heap.size ≤ B) : Row w' size v n xs := by
 obtain ⟨h1, h2, h3 | ⟨b, off, cap, h3, h4, h5, h6⟩⟩ := h
 ·exact ⟨h1, h2, .inl h3⟩
 ·refine ⟨h1, h2, .inr ⟨b, off, cap, h3, h4, Nat.lt_of_lt_of_le h5 hb.size, fun j hj => ?_⟩⟩
  rw [hb.cell (p := ⟨b, off + j, none⟩) (Nat.lt_of_lt_of_le h5 hB)]
  exact h6 j hj
theorem Row.of_owns {w : World} {base : Nat} {e : TypeId} {size : Nat} {v : Value} {n : Nat} {xs : List Value} (h : w.ownsRow base e size v n xs) : Row w size v n xs := by
 obtain ⟨h1, ⟨h2, h3⟩ | ⟨g, cap, cur, h2, h3, h4, h5, h6, h7, h8⟩⟩ := h
 ·subst h3; exact ⟨h1, Nat.zero_le _, .inl ⟨_, _, h2, rfl, fun _ => rfl⟩⟩
 ·rcases Nat.eq_zero_or_pos n with hn | hn
  ·subst hn; exact ⟨h1, Nat.zero_le _, .inl ⟨_, _, h2, rfl, fun h => by cases h⟩⟩
  ·refine ⟨h1, Nat.le_trans h5 h6, .inr ⟨g, 0, cap, h2, hn, ?_, fun j hj => ?_⟩⟩
   ·rcases Nat.lt_or_ge g w.heap.size with hg | hg
    ·exact hg
    ·rw [Array.getElem?_eq_none hg] at h4; cases h4
   ·subst h2
    rw [Nat.zero_add]
    exact World.ownsRow.cellAt ⟨h1, .inr ⟨g, cap, cur, rfl, h3, h4, h5, h6, h7, h8⟩⟩ j hj
/-- ints -/
def ints (xs : List Int) : List Value := xs.map (Value.int .i64)
theorem ints_length (xs : List Int) : (ints xs).length = xs.length := by simp [ints]
theorem ints_get (xs : List Int) (j : Nat) (h : j < xs.length) : (ints xs)[j]? = some (.int .i64 xs[j]) := by simp [ints, h]
def Ints (w : World) (v : Value) (xs : List Int) : Prop := Row w 1 v xs.length (ints xs)
theorem Ints.below {w w' : World} {v : Value} {xs : List Int} (h : Ints w v xs) {B : Nat} (hb : Below B w w') (hB : w.heap.size ≤ B) : Ints w' v xs := Row.below h hb hB
/-- nil, empty, or written out -/
theorem Ints.cases {w : World} {v : Value} {xs : List Int} (h : Ints w v xs) :
  xs.length ≤ maxLen ∧ ((∃ a cap, v = .slice a 0 cap ∧ xs = []) ∨
  ∃ b off cap, v = .slice (some ⟨b, off, none⟩) xs.length cap ∧ 0 < xs.length ∧ b < w.heap.size ∧ ∀ j (h : j < xs.length), w.cell? ⟨b, off + j, none⟩ = some (.int .i64 xs[j])) := by
 obtain ⟨h1, h2, ⟨a, cap, h3, h4, _⟩ | ⟨b, off, cap, h3, h4, h5, h6⟩⟩ := h
 ·exact ⟨h2, .inl ⟨a, cap, h3, List.eq_nil_of_length_eq_zero h4⟩⟩
 ·refine ⟨h2, .inr ⟨b, off, cap, h3, h4, h5, fun j hj => ?_⟩⟩
  rw [h6 j (by omega), ints_get xs j hj]
theorem owns_below {w w' : World} {B : Nat} {e : TypeId} {size : Nat} {v : Value} {n : Nat} {xs : List Value} (h : w.ownsRow B e size v n xs) (hb : Below w.heap.size w w') : w'.ownsRow B e size v n xs :=
 h.kept (row := none) ⟨hb.os, hb.tape, hb.output, hb.size, fun k hk _ => hb.block k hk⟩ (by cases v.ownBlock <;> simp)
/-- a row that grew leaves what lies below its base as it was -/
theorem below_grown {B : Nat} {a w w' : World} {v : Value} {e : TypeId} {size n : Nat} {xs : List Value} (h : Below B a w) (hown : w.ownsRow B e size v n xs) (hg : w.grownBy w' v.ownBlock) (hB : B ≤ w.heap.size) : Below B a w' :=
 h.grown hg hB (fun k hk => (hown.lt k hk).1)
/-- what is below stands, whatever became of the block itself -/
theorem below_first {w w1 : World} {o : Obj} (h : Below (w.heap.size + 1) (w.alloc o) w1) : Below w.heap.size w w1 :=
 ((Below.refl _ _).alloc (Nat.le_refl _) _).trans (h.mono (by omega))
/-- memory that was made since -/
def FreshV (B : Nat) (v : Value) : Prop := ∀ a n c, v = .slice (some a) n c → B ≤ a.block
theorem FreshV.nil (B n c : Nat) : FreshV B (.slice none n c) := fun a n c h => by cases h
theorem FreshV.mk {B : Nat} {a : Addr} {n c : Nat} (h : B ≤ a.block) : FreshV B (.slice (some a) n c) := fun a n c e => by injection e with e; injection e with e; subst e; exact h
theorem FreshV.mono {B B' : Nat} {v : Value} (h : FreshV B v) (hB : B' ≤ B) : FreshV B' v := fun a n c e => Nat.le_trans hB (h a n c e)
theorem FreshV.of_owns {w : World} {base : Nat} {e : TypeId} {size : Nat} {v : Value} {n : Nat} {xs : List Value} (h : w.ownsRow base e size v n xs) : FreshV base v := by
 intro a m c hv
 subst hv
 rcases h.2 with ⟨h1, _⟩ | ⟨g, cap, cur, h1, h2, _⟩
 ·cases h1
 ·injection h1 with h1
  injection h1 with h1
  subst h1; exact h2
theorem Ints.nil (w : World) (a : Option Addr) (c : Nat) (h : a = none → c = 0 := by simp) : Ints w (.slice a 0 c) [] := ⟨rfl, Nat.zero_le _, .inl ⟨_, _, rfl, rfl, h⟩⟩
theorem Ints.of_owns {w : World} {base : Nat} {e : TypeId} {v : Value} {n : Nat} {xs : List Int} (h : w.ownsRow base e 1 v n (ints xs)) (hn : xs.length = n) : Ints w v xs := by
 subst hn; exact Row.of_owns h
end Go
namespace Go
open Go.RowKit
theorem region_still_tail {P : Program} {id : Nat} {Q : Exit → Act → World → Prop} {a : Act} {w : World} {l : List Oper} (n : Nat) (hm : P.follows .mixedOrders = true) (hB : Region.lexTailB .any l.toArray n = true)
  (h : wpStill P l.toArray w.drew (fun a' => wpList P l.toArray Q (l.drop n) a' w.drew) (l.take n) a) : (Code.region id l.toArray true).wp P Q a w :=
 wp_region_still_tail n hm hB h
theorem below_then {a w w' : World} (h : Below a.heap.size a w) (h' : Below w.heap.size w w') : Below a.heap.size a w' := h.trans (h'.mono h.size)
theorem cell_lt {w : World} {b o : Nat} {v : Value} (h : w.cell? ⟨b, o, none⟩ = some v) : b < w.heap.size := by
 rcases Nat.lt_or_ge b w.heap.size with hg | hg
 ·exact hg
 ·simp [World.cell?, Array.getElem?_eq_none hg] at h
/-- texts -/
def strs (ls : List (List UInt8)) : List Value := ls.map fun l => Value.string (S l)
theorem strs_length (ls : List (List UInt8)) : (strs ls).length = ls.length := by simp [strs]
theorem strs_get (ls : List (List UInt8)) (j : Nat) (h : j < ls.length) : (strs ls)[j]? = some (.string (S ls[j])) := by simp [strs, h]
def Strs (w : World) (v : Value) (ls : List (List UInt8)) : Prop := Row w 1 v ls.length (strs ls)
theorem Strs.below {w w' : World} {v : Value} {ls : List (List UInt8)} (h : Strs w v ls) {B : Nat} (hb : Below B w w') (hB : w.heap.size ≤ B) : Strs w' v ls := Row.below h hb hB
theorem Strs.of_owns {w : World} {base : Nat} {e : TypeId} {v : Value} {n : Nat} {ls : List (List UInt8)} (h : w.ownsRow base e 1 v n (strs ls)) : Strs w v ls := by
 have h1 : n = ls.length := by have := h.1; rw [strs_length] at this; omega
 subst h1; exact Row.of_owns h
theorem Strs.cases {w : World} {v : Value} {ls : List (List UInt8)} (h : Strs w v ls) :
  ls.length ≤ maxLen ∧ ((∃ a cap, v = .slice a 0 cap ∧ ls = []) ∨
  ∃ b off cap, v = .slice (some ⟨b, off, none⟩) ls.length cap ∧ 0 < ls.length ∧ b < w.heap.size ∧ ∀ j (h : j < ls.length), w.cell? ⟨b, off + j, none⟩ = some (.string (S ls[j]))) := by
 obtain ⟨h1, h2, ⟨a, cap, h3, h4, _⟩ | ⟨b, off, cap, h3, h4, h5, h6⟩⟩ := h
 ·exact ⟨h2, .inl ⟨a, cap, h3, List.eq_nil_of_length_eq_zero h4⟩⟩
 ·refine ⟨h2, .inr ⟨b, off, cap, h3, h4, h5, fun j hj => ?_⟩⟩
  rw [h6 j (by omega), strs_get ls j hj]
theorem Strs.full {w : World} {v : Value} {ls : List (List UInt8)} (h : Strs w v ls) (hn : 0 < ls.length) :
  ∃ b off cap, v = .slice (some ⟨b, off, none⟩) ls.length cap ∧ b < w.heap.size ∧ ∀ j (h : j < ls.length), w.cell? ⟨b, off + j, none⟩ = some (.string (S ls[j])) := by
 obtain ⟨_, ⟨_, _, _, rfl⟩ | ⟨b, off, cap, h1, _, h2, h3⟩⟩ := h.cases
 ·cases hn
 ·exact ⟨b, off, cap, h1, h2, h3⟩
theorem Below_heap_new (w : World) (o : Obj) : (w.alloc o).heap[w.heap.size]? = some o := by
 show (w.heap.push o)[w.heap.size]? = _
 simp
/-- the cells of a block that the call laid first -/
theorem box_cells {w w1 : World} {cs : Array Value} {T : TypeId} (h : Below (w.heap.size + 1) (w.alloc (.cells cs T)) w1) (j : Nat) : w1.cell? ⟨w.heap.size, j, none⟩ = cs[j]? := by
 have e : (w.alloc (.cells cs T)).heap[w.heap.size]? = some (.cells cs T) := Below_heap_new w _
 rw [h.cell (p := ⟨w.heap.size, j, none⟩) (Nat.lt_succ_self _)]
 simp only [World.cell?, e]; rfl
theorem box_free {w w1 : World} {cs : Array Value} {T : TypeId} (h : Below (w.heap.size + 1) (w.alloc (.cells cs T)) w1) (j : Nat) : w1.frozen? ⟨w.heap.size, j, none⟩ = false := by
 have e : (w.alloc (.cells cs T)).heap[w.heap.size]? = some (.cells cs T) := Below_heap_new w _
 rw [h.frozen (p := ⟨w.heap.size, j, none⟩) (Nat.lt_succ_self _)]
 simp only [World.frozen?, e]
 simp
end Go
namespace Go
open Go.RowKit
theorem box_then {w w1 w2 : World} {o : Obj} (h : Below (w.heap.size + 1) (w.alloc o) w1) (h' : Below w1.heap.size w1 w2) : Below (w.heap.size + 1) (w.alloc o) w2 :=
 h.trans (h'.mono (by have := h.size; simp at this; omega))
theorem box_of {w w1 : World} {o : Obj} (h : Below (w.alloc o).heap.size (w.alloc o) w1) : Below (w.heap.size + 1) (w.alloc o) w1 := h.mono (by simp)
theorem two_cells {w w1 : World} {c d : Array Value} {S T : TypeId} (h : Below ((w.alloc (.cells c S)).alloc (.cells d T)).heap.size ((w.alloc (.cells c S)).alloc (.cells d T)) w1) (j : Nat) :
  w1.cell? ⟨w.heap.size, j, none⟩ = c[j]? ∧ w1.cell? ⟨w.heap.size + 1, j, none⟩ = d[j]? := by
 refine ⟨box_cells (box_of (below_first (box_of h))) j, ?_⟩
 have := box_cells (box_of h) j
 simpa using this
theorem two_below {w w1 : World} {o p : Obj} (h : Below ((w.alloc o).alloc p).heap.size ((w.alloc o).alloc p) w1) : Below w.heap.size w w1 :=
 below_first (box_of (below_first (box_of h)))
end Go
