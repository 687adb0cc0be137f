/- Locks: two rows of picks, one behind the other: slices.Concat: walks. -/
import Derived.Test.YtboajinaiceekaaGreatDoorLock7
import Derived.Lib.AppendZerosOnto
import Derived.Lib.AppendZeros
import Derived.Laws.AppendOwnNone
namespace Go
open Go.RowKit
theorem piks_one (ps : List Pik) : ∀ u ∈ ps.flatMap Pik.cells, u.oneCell' = true := by
  intro u hu
  rw [List.mem_flatMap] at hu
  obtain ⟨p, _, hu⟩ := hu
  simp [Pik.cells] at hu
  rcases hu with rfl | rfl | rfl | rfl | rfl <;> rfl
/-- what may be appended -/
def PForm (w : World) (v : Value) (ps : List Pik) : Prop :=
  (v = .slice none 0 0 ∧ ps = []) ∨ ∃ ad c, v = .slice (some ad) ps.length c ∧ ∀ j u, (ps.flatMap Pik.cells)[j]? = some u → w.cell? (ad.add j) = some u
theorem Piks.form {w : World} {v : Value} {ps : List Pik} (h : Piks w v ps) : PForm w v ps := by
  obtain ⟨h1, h2, ⟨a, cap, h3, h4, h5⟩ | ⟨b, off, cap, h3, h4, h5, h6⟩⟩ := h
  · have hp := List.eq_nil_of_length_eq_zero h4
    subst hp
    cases a with
    | none => rw [h5 rfl] at h3; exact .inl ⟨h3, rfl⟩
    | some ad => exact .inr ⟨ad, cap, h3, fun j u hu => by simp at hu⟩
  · refine .inr ⟨_, cap, h3, fun j u hu => ?_⟩
    have hj : j < ps.length * 5 := by
      rw [← h1]
      exact (List.getElem?_eq_some_iff.1 hu).1
    rw [Addr.add_lit]
    exact (h6 j hj).trans hu
end Go
namespace Go.Proofs.YtboajinaiceekaaGreatDoor
open Go.RowKit
set_option maxRecDepth 100000 in
set_option maxHeartbeats 2000000 in
theorem growP_any (n : Nat) (h0 : 0 < n) (hn : n ≤ 1000000) (w : World) :
    Calls Tryz.prog 62 #[.slice none 0 0, .int .i64 (n : Int)] w fun e w' => ∃ a cap, e = .returned (.slice a 0 cap) ∧ w'.ownsRow w.heap.size 47 5 (.slice a 0 cap) 0 [] ∧ Below w.heap.size w w' := by
  obtain ⟨i0, hi, hz0, hz1, hz2⟩ := info_parts info_pick
  have hrz : ∀ ty, (Builtin.append_ #[22, 3] ty #[.slice none 0 0, .int .i64 (n : Int)]).run Tryz.prog w =
      .ok (.slice (some ⟨w.heap.size, 0, none⟩) n (grownCap w n 0 47)) (w.drew.alloc (.cells (#[] ++ Builtin.zeroCells (Value.agg #[.string ⟨#[]⟩, .int .i64 0, .int .i64 0, .int .i64 0, .string ⟨#[]⟩]).cells n ++ Builtin.zeroCells (Value.agg #[.string ⟨#[]⟩, .int .i64 0, .int .i64 0, .int .i64 0, .string ⟨#[]⟩]).cells (grownCap w n 0 47 - n)) 47)) := fun ty => by
    have h := Lib.run_append_grow_zeros (P := Tryz.prog) w 22 3 ty 47 i0 _ .i64 .i64 Tryz.underlying22 Tryz.underlying3 hi hz0 none 0 0 [] (run_firstCells_none w.drew i0.size 0 0 0) n h0 (by rw [hz1]; decide) (by omega) (by omega) (by rw [hz2]; omega)
      (growslice_fits (by omega) (by rw [hz2]; omega))
    simpa only [Nat.zero_add] using h
  have hGn : n ≤ grownCap w n 0 47 := grownCap_ge w _ _ _
  have hGm := grownCap_le_maxLen w n 0 47 (by unfold maxLen; omega)
  obtain ⟨G, hG⟩ : ∃ G, grownCap w n 0 47 = G := ⟨_, rfl⟩
  rw [hG] at hrz hGn hGm
  obtain ⟨cs, hcs⟩ : ∃ cs, (#[] ++ Builtin.zeroCells (Value.agg #[.string ⟨#[]⟩, .int .i64 0, .int .i64 0, .int .i64 0, .string ⟨#[]⟩]).cells n ++ Builtin.zeroCells (Value.agg #[.string ⟨#[]⟩, .int .i64 0, .int .i64 0, .int .i64 0, .string ⟨#[]⟩]).cells (G - n) : Array Value) = cs := ⟨_, rfl⟩
  rw [hcs] at hrz
  have hcsz : cs.size = G * 5 := by
    rw [← hcs, Array.size_append, Array.size_append, size_zeroCells, size_zeroCells]
    rw [show (Value.agg #[.string ⟨#[]⟩, .int .i64 0, .int .i64 0, .int .i64 0, .string ⟨#[]⟩]).cells.size = 5 by decide]
    simp; omega
  have hw : (w.drew).heap.size = w.heap.size := rfl
  have HOwn : Hid ((w.drew.alloc (.cells cs 47)).ownsRow w.heap.size 47 5 (.slice (some ⟨w.heap.size, 0, none⟩) 0 G) 0 []) :=
    ⟨rfl, .inr ⟨w.heap.size, G, cs, rfl, Nat.le_refl _, Below_heap_new w.drew _, Nat.zero_le _, hGm, hcsz, by simp⟩⟩
  have HB := Lib.hid (((Below.refl w.heap.size w).drew).alloc (Nat.le_refl _) (.cells cs 47))
  have hG63 : G ≤ 9223372036854775807 := hGm
  clear hG hcs hcsz hGm hw
  go_enter Tryz.func62, Tryz.ntmps62
  go_wp2_with (at_builtin; refine Lib.wpList_append_run _ rfl _ _ _ _ rfl _ _ rfl rfl _ _ (hrz _) ?_)
  all_goals
    go_ret
    exact ⟨_, _, rfl, HOwn.out, HB.out⟩
set_option maxRecDepth 100000 in
set_option maxHeartbeats 1000000 in
theorem grow0_any (w : World) : Calls Tryz.prog 62 #[.slice none 0 0, .int .i64 0] w fun e w' => e = .returned (.slice none 0 0) ∧ w' = w := by
  go_enter Tryz.func62, Tryz.ntmps62
  go_wp2_with fail
  go_ret
  exact ⟨rfl, rfl⟩
theorem growP_all (x : Int) (n : Nat) (hx : x = (n : Int)) (hn : n ≤ 1000000) (w : World) :
    Calls Tryz.prog 62 #[.slice none 0 0, .int .i64 x] w fun e w' => ∃ a cap, e = .returned (.slice a 0 cap) ∧ w'.ownsRow w.heap.size 47 5 (.slice a 0 cap) 0 [] ∧ Below w.heap.size w w' := by
  subst hx
  rcases Nat.eq_zero_or_pos n with rfl | h0
  · exact (grow0_any w).mono fun _ _ ⟨he, hw⟩ => ⟨none, 0, he, by rw [hw]; exact World.ownsRow_nil _ _ _ _, by rw [hw]; exact Below.refl _ _⟩
  · exact growP_any n h0 hn w
def C1Rel (a b : Nat) (v i : Value) : Prop := (i = .int .i64 0 ∧ v = .int .i64 0) ∨ (i = .int .i64 1 ∧ v = .int .i64 (a : Int)) ∨ (i = .int .i64 2 ∧ v = .int .i64 ((a + b : Nat) : Int))
def C2Rel (ps qs : List Pik) (w : World) (v i : Value) (wr : World) : Prop :=
  ∃ (k : Nat) (rs : List Pik), i = .int .i64 (k : Int) ∧ ((k = 0 ∧ rs = []) ∨ (k = 1 ∧ rs = ps) ∨ (k = 2 ∧ rs = ps ++ qs)) ∧ wr.ownsRow w.heap.size 47 5 v rs.length (rs.flatMap Pik.cells) ∧ (∃ a cap, v = .slice a rs.length cap) ∧ Below w.heap.size w wr
theorem own_form {w : World} {base : Nat} {e : TypeId} {size : Nat} {v : Value} {n : Nat} {xs : List Value} (h : w.ownsRow base e size v n xs) : ∃ a cap, v = .slice a n cap := by
  rcases h.2 with ⟨rfl, rfl⟩ | ⟨g, cap, cur, rfl, _⟩
  · exact ⟨_, _, rfl⟩
  · exact ⟨_, _, rfl⟩
theorem PForm.below {w w' : World} {v : Value} {ps : List Pik} (hv : Piks w v ps) (hb : Below w.heap.size w w') : PForm w' v ps := (hv.below hb (Nat.le_refl _)).form
set_option maxRecDepth 100000 in
set_option maxHeartbeats 4000000 in
theorem concat_any (v u : Value) (ps qs : List Pik) (B : Nat) (w : World) (hv : Piks w v ps) (hu : Piks w u qs) (h0 : w.cell? ⟨B, 0, none⟩ = some v) (h1 : w.cell? ⟨B, 1, none⟩ = some u) (hp : ps.length ≤ 40) (hq : qs.length ≤ 40) :
    Calls Tryz.prog 36 #[.slice (some ⟨B, 0, none⟩) 2 2] w fun e w' => ∃ a cap, e = .returned (.slice a (ps ++ qs).length cap) ∧ Piks w' (.slice a (ps ++ qs).length cap) (ps ++ qs) ∧ Below w.heap.size w w' := by
  obtain ⟨a1, c1, rfl⟩ := hv.len
  obtain ⟨a2, c2, rfl⟩ := hu.len
  have HV := Lib.hid hv
  have HU := Lib.hid hu
  have hz := cell_lt h0
  obtain ⟨N, hN⟩ : ∃ N, ps.length + qs.length = N := ⟨_, rfl⟩
  have hNl : N ≤ 80 := by omega
  have HNe := Lib.hid hN
  have H0 := Lib.hid h0
  have H1 := Lib.hid h1
  have g63a : ¬ ((ps.length : Int) < 0) := by omega
  have g63b : ¬ ((ps.length : Int) + (qs.length : Int) < 0) := by omega
  clear hv hu hN
  go_enter Tryz.func36, Tryz.ntmps36
  go_wp2_with fail
  go_loop [3, 11] (fun v i => C1Rel ps.length qs.length v i) (fun _ i => 2 - (intOf i).toNat)
  case atStart => exact .inl ⟨rfl, rfl⟩
  case round =>
    rcases hrel with ⟨rfl, rfl⟩ | ⟨rfl, rfl⟩ | ⟨rfl, rfl⟩
    · go_wp2_with fail
      go_round
      case rel => exact .inr (.inl ⟨rfl, rfl⟩)
      case measure => simp [intOf]
    · go_wp2_with fail
      go_round
      case rel => exact .inr (.inr ⟨rfl, by go_num⟩)
      case measure => simp [intOf]
    · have HG := Lib.hid (fun W => growP_all ((ps.length : Int) + (qs.length : Int)) N (by have := HNe.out; omega) (by omega) W)
      have HI := Lib.hid (info_parts info_pick)
      go_wp2_with fail
      refine (HG.out _).mono ?_
      rintro e w1 ⟨ga, gcap, rfl, hown, hb1⟩
      have HOwn := Lib.hid hown
      clear hown h0 h1 g63a g63b
      go_wp2_with fail
      go_loopw [6, 27] (fun v i wr => C2Rel ps qs w v i wr) (fun _ i _ => 2 - (intOf i).toNat)
      case atStart => exact ⟨0, [], rfl, .inl ⟨rfl, rfl⟩, HOwn.out, ⟨_, _, rfl⟩, hb1⟩
      case round =>
        obtain ⟨k, rs, rfl, hk, hown, ⟨va, vcap, rfl⟩, hb⟩ := hrel
        have HO := Lib.hid hown
        have d0 := (hb.cell (p := ⟨B, 0, none⟩) hz).trans H0.out
        have d1 := (hb.cell (p := ⟨B, 1, none⟩) hz).trans H1.out
        obtain ⟨i0', hi, hz0', hz1', hz2'⟩ := HI.out
        have hB3 := hb.size
        clear hown
        rcases hk with ⟨rfl, rfl⟩ | ⟨rfl, rfl⟩ | ⟨rfl, rfl⟩
        · rcases (HV.out.below hb (Nat.le_refl _)).form with ⟨hv0, hp0⟩ | ⟨ad, c, hv0, hnew⟩
          · injection hv0 with e1 e2 e3
            subst e1 e3
            rw [e2] at d0
            have HP0 := Lib.hid hp0
            clear hp0 e2
            go_wp2_with (at_builtin; go_must (refine wpList_append_own_none rfl _ _ 22 rfl w.heap.size 47 i0' 5 Tryz.underlying22 hi _ _ _ rfl HO.out rfl ?_))
            go_wp2
            go_roundw
            case rel => exact ⟨1, [], rfl, .inr (.inl ⟨rfl, HP0.out.symm⟩), HO.out, ⟨_, _, rfl⟩, hb⟩
            case measure => simp [intOf]
          · injection hv0 with e1 e2 e3
            subst e1 e3
            have HNew := Lib.hid hnew
            clear hnew
            go_wp2_with (at_builtin; go_must (refine wpList_append_own _ rfl _ _ 22 rfl w.heap.size 47 i0' (.agg #[.string ⟨#[]⟩, .int .i64 0, .int .i64 0, .int .i64 0, .string ⟨#[]⟩]) 5 56 Tryz.underlying22 hi hz0' hz1' hz2' rfl (by decide) _ _ _ rfl HO.out _ _ _ (ps.flatMap Pik.cells) rfl (piks_len ps) HNew.out (piks_one ps) ?c3 ?c4 hB3 ?_))
            case c3 => unfold maxLen; omega
            case c4 => omega
            intro v' w8 hown2 hg2 _
            have hb8 := below_grown hb HO.out hg2 hB3
            have hf := own_form hown2
            obtain ⟨ga2, gc2, rfl⟩ := hf
            have HO2 := Lib.hid hown2
            clear hg2 hown2
            go_wp2
            go_roundw
            case rel =>
              refine ⟨1, ps, rfl, .inr (.inl ⟨rfl, rfl⟩), ?_, ⟨ga2, gc2, by simp⟩, hb8⟩
              have h := HO2.out
              simpa using h
            case measure => simp [intOf]
        · rcases (HU.out.below hb (Nat.le_refl _)).form with ⟨hv0, hp0⟩ | ⟨ad, c, hv0, hnew⟩
          · injection hv0 with e1 e2 e3
            subst e1 e3
            rw [e2] at d1
            have HP0 := Lib.hid hp0
            clear hp0 e2
            go_wp2_with (at_builtin; go_must (refine wpList_append_own_none rfl _ _ 22 rfl w.heap.size 47 i0' 5 Tryz.underlying22 hi _ _ _ rfl HO.out rfl ?_))
            go_wp2
            go_roundw
            case rel => exact ⟨2, rs, rfl, .inr (.inr ⟨rfl, by rw [HP0.out, List.append_nil]⟩), HO.out, ⟨_, _, rfl⟩, hb⟩
            case measure => simp [intOf]
          · injection hv0 with e1 e2 e3
            subst e1 e3
            have HNew := Lib.hid hnew
            clear hnew
            go_wp2_with (at_builtin; go_must (refine wpList_append_own _ rfl _ _ 22 rfl w.heap.size 47 i0' (.agg #[.string ⟨#[]⟩, .int .i64 0, .int .i64 0, .int .i64 0, .string ⟨#[]⟩]) 5 56 Tryz.underlying22 hi hz0' hz1' hz2' rfl (by decide) _ _ _ rfl HO.out _ _ _ (qs.flatMap Pik.cells) rfl (piks_len qs) HNew.out (piks_one qs) ?c3 ?c4 hB3 ?_))
            case c3 => unfold maxLen; omega
            case c4 => omega
            intro v' w8 hown2 hg2 _
            have hb8 := below_grown hb HO.out hg2 hB3
            have hf := own_form hown2
            obtain ⟨ga2, gc2, rfl⟩ := hf
            have HO2 := Lib.hid hown2
            clear hg2 hown2
            go_wp2
            go_roundw
            case rel =>
              refine ⟨2, rs ++ qs, rfl, .inr (.inr ⟨rfl, rfl⟩), ?_, ⟨ga2, gc2, by simp⟩, hb8⟩
              have h := HO2.out
              simpa using h
            case measure => simp [intOf]
        · go_wp2_with fail
          go_ret
          exact ⟨_, _, rfl, Piks.of_owns HO.out, hb⟩
end Go.Proofs.YtboajinaiceekaaGreatDoor
