/- Locks as texts, plainly: what is written; what a text is. -/
import Derived.Test.YtbihdgnhdlpmgaaGreatDoorCrcMath
import Derived.Test.YtbihdgnhdlpmgaaGreatDoorRanMath
import Derived.Test.YtbihdgnhdlpmgaaGreatDoorLexMath
import Derived.Test.YtbihdgnhdlpmgaaGreatDoorCmdMath3
namespace Go
open Go.RowKit
/-- a pick -/
structure Pik where
  name : ByteArray
  v : V4
def Pik.cells (p : Pik) : List Value := [.string p.name, .int .i64 p.v.a, .int .i64 p.v.b, .int .i64 p.v.c, .string p.v.p]
def Piks (w : World) (v : Value) (ps : List Pik) : Prop := Row w 5 v ps.length (ps.flatMap Pik.cells)
theorem Piks.below {w w' : World} {v : Value} {ps : List Pik} (h : Piks w v ps) {B : Nat} (hb : Below B w w') (hB : w.heap.size ≤ B) : Piks w' v ps := Row.below h hb hB
theorem piks_get (vs : List Pik) : ∀ (j : Nat) (h : j < vs.length) (i : Nat), i < 5 → (vs.flatMap Pik.cells)[j * 5 + i]? = (vs[j].cells)[i]? := by
  induction vs with
  | nil => intro j h; cases h
  | cons v vs ih =>
    intro j h i hi
    rw [List.flatMap_cons]
    cases j with
    | zero =>
      have : i < v.cells.length := hi
      rw [Nat.zero_mul, Nat.zero_add, List.getElem?_append_left this]; rfl
    | succ j =>
      have hl : v.cells.length = 5 := rfl
      rw [List.getElem?_append_right (by rw [hl]; omega), hl, show (j + 1) * 5 + i - 5 = j * 5 + i by omega, ih j (by simpa using h) i hi]
      rfl
theorem piks_len (vs : List Pik) : (vs.flatMap Pik.cells).length = vs.length * 5 := by
  induction vs with
  | nil => rfl
  | cons v vs ih => rw [List.flatMap_cons, List.length_append, ih, List.length_cons]; simp [Pik.cells]; omega
theorem Piks.cases {w : World} {v : Value} {vs : List Pik} (h : Piks w v vs) :
    vs.length ≤ maxLen ∧ ((∃ a cap, v = .slice a 0 cap ∧ vs = []) ∨
    ∃ b off cap, v = .slice (some ⟨b, off, none⟩) vs.length cap ∧ 0 < vs.length ∧ b < w.heap.size ∧ ∀ j (h : j < vs.length), w.cell? ⟨b, off + j * 5, none⟩ = some (.string vs[j].name) ∧
      w.cell? ⟨b, off + j * 5 + 1, none⟩ = some (.int .i64 vs[j].v.a) ∧ w.cell? ⟨b, off + j * 5 + 2, none⟩ = some (.int .i64 vs[j].v.b) ∧ w.cell? ⟨b, off + j * 5 + 3, none⟩ = some (.int .i64 vs[j].v.c) ∧
      w.cell? ⟨b, off + j * 5 + 4, none⟩ = some (.string vs[j].v.p)) := by
  obtain ⟨h1, h2, ⟨a, cap, h3, h4, _⟩ | ⟨b, off, cap, h3, h4, h5, h6⟩⟩ := h
  · exact ⟨h2, .inl ⟨a, cap, h3, List.eq_nil_of_length_eq_zero h4⟩⟩
  · refine ⟨h2, .inr ⟨b, off, cap, h3, h4, h5, fun j hj => ?_⟩⟩
    have g := fun i hi => (h6 (j * 5 + i) (by omega)).trans (piks_get vs j hj i hi)
    refine ⟨?_, ?_, ?_, ?_, ?_⟩
    · have := g 0 (by omega); simpa [Pik.cells] using this
    · have := g 1 (by omega); simpa [Pik.cells, Nat.add_assoc] using this
    · have := g 2 (by omega); simpa [Pik.cells, Nat.add_assoc] using this
    · have := g 3 (by omega); simpa [Pik.cells, Nat.add_assoc] using this
    · have := g 4 (by omega); simpa [Pik.cells, Nat.add_assoc] using this
theorem Piks.of_owns {w : World} {base : Nat} {e : TypeId} {v : Value} {n : Nat} {ps : List Pik} (h : w.ownsRow base e 5 v n (ps.flatMap Pik.cells)) : Piks w v ps := by
  have h1 : n = ps.length := by have := h.1; rw [piks_len] at this; omega
  subst h1; exact Row.of_owns h
/-! may picks be a lock? -/
def Pik.nm (p : Pik) : List UInt8 := p.name.data.toList
def Pik.ok (p : Pik) : Bool := nameOk p.nm && p.v.ok
/-- a pick's name is above the one ahead of it -/
def risesAt (l : List Pik) (k : Nat) : Bool := match l[k - 1]?, l[k]? with
  | some a, some b => decide (k = 0) || Op.bytesLess a.nm b.nm
  | _, _ => true
def mayTo (l : List Pik) : Nat → Bool
  | 0 => true
  | k + 1 => mayTo l k && ((l[k]?.map Pik.ok).getD true && risesAt l k)
def mayB (l : List Pik) : Bool := mayTo l l.length && decide (l.length ≤ 40)
theorem mayTo_le {l : List Pik} : ∀ {n k : Nat}, mayTo l n = true → k ≤ n → mayTo l k = true
  | 0, k, h, hk => by have : k = 0 := by omega
                      subst this; exact h
  | n + 1, k, h, hk => by
    rw [mayTo, Bool.and_eq_true] at h
    by_cases e : k = n + 1
    · subst e; rw [mayTo, h.1, h.2]; rfl
    · exact mayTo_le h.1 (by omega)
theorem may_ok {l : List Pik} (h : mayTo l l.length = true) {k : Nat} (hk : k < l.length) : l[k].ok = true := by
  have := mayTo_le h (show k + 1 ≤ l.length from hk)
  rw [mayTo, Bool.and_eq_true, Bool.and_eq_true, List.getElem?_eq_getElem hk] at this
  exact this.2.1
theorem may_rises {l : List Pik} (h : mayTo l l.length = true) {k : Nat} (hk : k + 1 < l.length) : Op.bytesLess l[k].nm l[k + 1].nm = true := by
  have := mayTo_le h (show k + 1 + 1 ≤ l.length from hk)
  rw [mayTo, Bool.and_eq_true, Bool.and_eq_true] at this
  have := this.2.2
  unfold risesAt at this
  rw [Nat.add_sub_cancel, List.getElem?_eq_getElem (by omega), List.getElem?_eq_getElem hk] at this
  simpa using this
theorem mayTo_no {l : List Pik} {k : Nat} (hk : k < l.length) (h : l[k].ok = false ∨ risesAt l k = false) : mayB l = false := by
  unfold mayB
  rw [Bool.and_eq_false_iff]
  left
  cases hm : mayTo l l.length
  · rfl
  · have := mayTo_le hm (show k + 1 ≤ l.length from hk)
    rw [mayTo, Bool.and_eq_true, Bool.and_eq_true, List.getElem?_eq_getElem hk] at this
    rcases h with h | h
    · have h1 := this.2.1
      simp only [Option.map_some, Option.getD_some] at h1
      rw [h] at h1; cases h1
    · rw [h] at this; exact absurd this.2.2 (by decide)
theorem mayTo_succ {l : List Pik} {k : Nat} (hk : k < l.length) (h : mayTo l k = true) (h1 : l[k].ok = true) (h2 : risesAt l k = true) : mayTo l (k + 1) = true := by
  rw [mayTo, h, h2, List.getElem?_eq_getElem hk]
  simp [h1]
/-! how a lock is written -/
def Pik.line (p : Pik) : List UInt8 := p.nm ++ 32 :: p.v.show
def headL : List UInt8 := [108, 111, 99, 107, 32, 49, 10]
def lineN (p : Pik) : List UInt8 := p.line ++ [10]
def bodyL (l : List Pik) : List UInt8 := headL ++ (l.map lineN).flatten
def hexC (d : Nat) : UInt8 := if d < 10 then UInt8.ofNat (48 + d) else UInt8.ofNat (87 + d)
def hexK : Nat → Nat → List UInt8
  | 0, _ => []
  | k + 1, n => hexK k (n / 16) ++ [hexC (n % 16)]
def sumL (b : List UInt8) : List UInt8 := [115, 117, 109, 32] ++ hexK 8 (Crc.sum b) ++ [10]
def lockL (l : List Pik) : List UInt8 := bodyL l ++ sumL (bodyL l)
def lockShow (l : List Pik) : List UInt8 × Int := if mayB l then (lockL l, 0) else ([], 370)
/-- the lock that some bytes are, or the error -/
def LockIs (s : List UInt8) (l : List Pik) (e : Int) : Prop := (e = 0 ∧ mayB l = true ∧ lockL l = s) ∨ (e = 370 ∧ l = [] ∧ ∀ k : List Pik, mayB k = true → lockL k ≠ s)
theorem hexK_length : ∀ (k n : Nat), (hexK k n).length = k
  | 0, _ => rfl
  | k + 1, n => by rw [hexK, List.length_append, hexK_length k]; rfl
theorem hexC_all : ∀ d : Fin 16, hexC d.val ≠ 10 ∧ hexC d.val ≠ 32 ∧ hexC d.val ≠ 46 ∧ (hexC d.val).toNat < 128 := by decide
theorem hexC_ne {d : Nat} (h : d < 16) : hexC d ≠ 10 ∧ hexC d ≠ 32 ∧ hexC d ≠ 46 ∧ (hexC d).toNat < 128 := hexC_all ⟨d, h⟩
theorem hexC_inj_all : ∀ a b : Fin 16, hexC a.val = hexC b.val → a = b := by decide
theorem hexC_inj {a b : Nat} (ha : a < 16) (hb : b < 16) (h : hexC a = hexC b) : a = b := congrArg Fin.val (hexC_inj_all ⟨a, ha⟩ ⟨b, hb⟩ h)
theorem hexK_mem : ∀ (k n : Nat), ∀ c ∈ hexK k n, c ≠ 10 ∧ c ≠ 32 ∧ c ≠ 46 ∧ c.toNat < 128
  | 0, _, c, h => by cases h
  | k + 1, n, c, h => by
    rw [hexK, List.mem_append] at h
    rcases h with h | h
    · exact hexK_mem k (n / 16) c h
    · simp only [List.mem_singleton] at h
      subst h
      exact hexC_ne (Nat.mod_lt _ (by decide))
theorem hexK_inj : ∀ (k a b : Nat), a < 16 ^ k → b < 16 ^ k → hexK k a = hexK k b → a = b
  | 0, a, b, ha, hb, _ => by rw [Nat.pow_zero] at ha hb; omega
  | k + 1, a, b, ha, hb, h => by
    rw [hexK, hexK] at h
    have h1 := List.append_inj' h rfl
    have h2 := hexK_inj k (a / 16) (b / 16) (by rw [Nat.pow_succ] at ha; omega) (by rw [Nat.pow_succ] at hb; omega) h1.1
    have h3 : hexC (a % 16) = hexC (b % 16) := by injection h1.2
    have := hexC_inj (Nat.mod_lt a (by decide)) (Nat.mod_lt b (by decide)) h3
    omega
theorem sumL_length (b : List UInt8) : (sumL b).length = 13 := by simp [sumL, hexK_length]
end Go
