/- The laws of layer 4: rows of versions; Core, light, the probes: walks. -/
import Derived.Test.YtkjifpfaekljaaaDoorSemProg6
namespace Go.Proofs.YtkjifpfaekljaaaDoor
open Go.RowKit
/-- a version -/
structure V4 where
  a : Int
  b : Int
  c : Int
  p : ByteArray
def V4.cells (v : V4) : List Value := [.int .i64 v.a, .int .i64 v.b, .int .i64 v.c, .string v.p]
def V4.val (v : V4) : Value := .agg #[.int .i64 v.a, .int .i64 v.b, .int .i64 v.c, .string v.p]
def Vers (w : World) (v : Value) (vs : List V4) : Prop := Row w 4 v vs.length (vs.flatMap V4.cells)
theorem Vers.below {w w' : World} {v : Value} {vs : List V4} (h : Vers w v vs) {B : Nat} (hb : Below B w w') (hB : w.heap.size ≤ B) : Vers w' v vs := Row.below h hb hB
theorem vers_get (vs : List V4) : ∀ (j : Nat) (h : j < vs.length) (i : Nat), i < 4 → (vs.flatMap V4.cells)[j * 4 + i]? = (vs[j].cells)[i]? := by
  induction vs with
  | nil => intro j h; cases h
  | cons v vs ih =>
    intro j h i hi
    rw [List.flatMap_cons]
    cases j with
    | zero =>
      have : i < v.cells.length := hi
      rw [Nat.zero_mul, Nat.zero_add, List.getElem?_append_left this]; rfl
    | succ j =>
      have hl : v.cells.length = 4 := rfl
      rw [List.getElem?_append_right (by rw [hl]; omega), hl, show (j + 1) * 4 + i - 4 = j * 4 + i by omega, ih j (by simpa using h) i hi]
      rfl
theorem Vers.cases {w : World} {v : Value} {vs : List V4} (h : Vers w v vs) :
    vs.length ≤ maxLen ∧ ((∃ a cap, v = .slice a 0 cap ∧ vs = []) ∨
    ∃ b off cap, v = .slice (some ⟨b, off, none⟩) vs.length cap ∧ 0 < vs.length ∧ b < w.heap.size ∧ ∀ j (h : j < vs.length), w.cell? ⟨b, off + j * 4, none⟩ = some (.int .i64 vs[j].a) ∧
      w.cell? ⟨b, off + j * 4 + 1, none⟩ = some (.int .i64 vs[j].b) ∧ w.cell? ⟨b, off + j * 4 + 2, none⟩ = some (.int .i64 vs[j].c) ∧ w.cell? ⟨b, off + j * 4 + 3, none⟩ = some (.string vs[j].p)) := by
  obtain ⟨h1, h2, ⟨a, cap, h3, h4, _⟩ | ⟨b, off, cap, h3, h4, h5, h6⟩⟩ := h
  · exact ⟨h2, .inl ⟨a, cap, h3, List.eq_nil_of_length_eq_zero h4⟩⟩
  · refine ⟨h2, .inr ⟨b, off, cap, h3, h4, h5, fun j hj => ?_⟩⟩
    have g := fun i hi => (h6 (j * 4 + i) (by omega)).trans (vers_get vs j hj i hi)
    refine ⟨?_, ?_, ?_, ?_⟩
    · have := g 0 (by omega); simpa [V4.cells] using this
    · have := g 1 (by omega); simpa [V4.cells, Nat.add_assoc] using this
    · have := g 2 (by omega); simpa [V4.cells, Nat.add_assoc] using this
    · have := g 3 (by omega); simpa [V4.cells, Nat.add_assoc] using this
theorem vers_len (vs : List V4) : (vs.flatMap V4.cells).length = vs.length * 4 := by
  induction vs with
  | nil => rfl
  | cons v vs ih => rw [List.flatMap_cons, List.length_append, ih, List.length_cons]; simp [V4.cells]; omega
theorem vers_new (w : World) (vs : List V4) (T : TypeId) (cap B n : Nat) (cs : Array Value) (hB : B = w.heap.size) (hcs : cs = (vs.flatMap V4.cells).toArray) (hn' : n = vs.length) (hn : 0 < vs.length) (hm : vs.length ≤ maxLen) :
    Vers (w.alloc (.cells cs T)) (.slice (some ⟨B, 0, none⟩) n cap) vs := by
  subst hB hcs hn'
  refine ⟨by rw [vers_len], hm, .inr ⟨w.heap.size, 0, cap, rfl, hn, by simp, fun j hj => ?_⟩⟩
  simp only [World.cell?, Below_heap_new, Nat.zero_add, Option.isSome_none, Bool.false_eq_true, if_false]
  simp
def isLight (v : V4) : Bool := decide (v.p.size ≤ 300)
def LightRel (vs : List V4) (i : Value) : Prop := ∃ k : Nat, k ≤ vs.length ∧ i = .int .i64 (k : Int) ∧ (vs.take k).all isLight = true
set_option maxRecDepth 100000 in
set_option maxHeartbeats 1000000 in
theorem light_any (v : Value) (vs : List V4) (w : World) (hv : Vers w v vs) (hlen : ∃ a cap, v = .slice a vs.length cap) (hp : ∀ x ∈ vs, x.p.size ≤ 9223372036854775807) :
    Calls Tryd.prog 13 #[v] w fun e w' => e = .returned (.bool (vs.all isLight)) ∧ w = w' := by
  have HP := Lib.hid hp
  clear hp
  obtain ⟨hm, ⟨a, cap, rfl, rfl⟩ | ⟨bx, ox, cap, rfl, hn, _, hc⟩⟩ := hv.cases
  · go_enter Tryd.func13, Tryd.ntmps13
    go_wp2_with fail
    go_loop [3] (fun i => i = .int .i64 0) (fun _ => 0)
    case atStart => rfl
    case round =>
      subst hrel
      go_wp2_with fail
      go_ret
      exact ⟨rfl, rfl⟩
  unfold maxLen at hm
  have HC := Lib.hid hc
  clear hc hlen
  go_enter Tryd.func13, Tryd.ntmps13
  go_wp2_with fail
  go_loop [3] (fun i => LightRel vs i) (fun i => vs.length - (intOf i).toNat)
  case atStart => exact ⟨0, Nat.zero_le _, rfl, rfl⟩
  case round =>
    obtain ⟨k, hk, rfl, hall⟩ := hrel
    have HA := Lib.hid hall
    clear hall
    by_cases hlt : k < vs.length
    · obtain ⟨_, _, _, c3⟩ := HC.out k hlt
      have i1 : (k : Int) < (vs.length : Int) := by omega
      have hsz := HP.out _ (List.getElem_mem hlt)
      obtain ⟨x, hx⟩ : ∃ x, vs[k] = x := ⟨_, rfl⟩
      rw [hx] at c3 hsz
      have HX := Lib.hid hx
      have HT := Lib.hid (List.take_succ_eq_append_getElem hlt)
      clear hx
      by_cases hl : 300 < x.p.size
      · have q : decide ((300 : Int) < (x.p.size : Int)) = true := by simp; omega
        have HE : Hid (vs.all isLight = false) := by
          show _ = _
          rw [List.all_eq_false]
          exact ⟨vs[k], List.getElem_mem hlt, by rw [HX.out]; simp [isLight]; omega⟩
        clear hl
        go_wp2_with fail
        go_ret
        exact ⟨by rw [HE.out]; rfl, rfl⟩
      · have q : decide ((300 : Int) < (x.p.size : Int)) = false := by simp; omega
        have HE : Hid (isLight x = true) := by show _ = _; simp [isLight]; omega
        clear hl
        go_wp2_with fail
        go_round
        case rel => exact ⟨k + 1, by omega, by go_num, by rw [HT.out, List.all_append, HA.out, HX.out]; simp [HE.out]⟩
        case measure => simp [intOf]; omega
    · have q : decide (k < vs.length) = false := by simp; omega
      obtain rfl : k = vs.length := by omega
      have HE : Hid (vs.all isLight = true) := by
        show _ = _
        have := HA.out
        rwa [List.take_of_length_le (Nat.le_refl _)] at this
      go_wp2_with fail
      go_ret
      exact ⟨by rw [HE.out]; rfl, rfl⟩
set_option maxRecDepth 100000 in
set_option maxHeartbeats 1000000 in
theorem core_any (a b c : Int) (p : ByteArray) (w : World) :
    Calls Tryd.prog 18 #[.agg #[.int .i64 a, .int .i64 b, .int .i64 c, .string p]] w fun e w' => e = .returned (.agg #[.int .i64 a, .int .i64 b, .int .i64 c, .string ⟨#[]⟩]) ∧ Below w.heap.size w w' := by
  go_enter Tryd.func18, Tryd.ntmps18
  go_wp2_with fail
  exact bodyPost_ret (v := .agg #[.int .i64 a, .int .i64 b, .int .i64 c, .string ⟨#[]⟩]) (by simp [results, Tryd.results18, go_sem]) rfl ⟨rfl, ((Below.refl _ _).alloc (Nat.le_refl _) _).alloc (by simp) _⟩
end Go.Proofs.YtkjifpfaekljaaaDoor
