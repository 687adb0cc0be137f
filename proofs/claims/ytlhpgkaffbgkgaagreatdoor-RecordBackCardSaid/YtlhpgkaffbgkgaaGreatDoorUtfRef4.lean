/- The reference's Decode: a walk. -/
import Derived.Test.YtlhpgkaffbgkgaaGreatDoorProg
import Derived.Test.YtlhpgkaffbgkgaaGreatDoorUtfMath
import Derived.Deep.LoopGhost
import Derived.Lib.Hide
import Derived.Test.YtlhpgkaffbgkgaaGreatDoorCells
import Derived.WalkLawsBesides
namespace Go.Proofs.YtlhpgkaffbgkgaaGreatDoor
open Go.RowKit
theorem info_int : (Tryz.prog.info? 3).map (fun i => (i.zero, i.size, i.bytes)) = some (some (.int .i64 0), 1, 8) := by kernel_rfl
theorem info_fault : (Tryz.prog.info? 88).map (fun i => (i.zero, i.size, i.bytes)) = some (some (.agg #[.int .i64 0, .int .i64 0]), 2, 16) := by kernel_rfl
/-- what the reference's First tells -/
def fstP (s : ByteArray) : Int := (Utf.first s.data.toList).1
def fstN (s : ByteArray) : Int := ((Utf.first s.data.toList).2 : Nat)
def FirstSaid : Prop := ∀ (s : ByteArray) (w : World), s.size ≤ 140737488355328 → Calls Tryz.prog 73 #[.string s] w fun e w' => e = .returned (.tuple #[.int .i64 (fstP s), .int .i64 (fstN s)]) ∧ Below w.heap.size w w'
/-- what both decoders tell -/
def toI (ps : List Nat) : List Int := ps.map Int.ofNat
def decBad (s : ByteArray) : Bool := decide ((Utf.pts s.data.toList).2 < s.size)
def decPts (s : ByteArray) : List Int := if decBad s then [] else toI (Utf.pts s.data.toList).1
def decErr (s : ByteArray) : Int := if decBad s then 30 else 0
def decAt (s : ByteArray) : Int := if decBad s then ((Utf.pts s.data.toList).2 : Nat) else 0
def DecPost (s : ByteArray) (w : World) (e : Ending) (w' : World) : Prop :=
  ∃ v, e = .returned (.tuple #[v, .agg #[.int .i64 (decErr s), .int .i64 (decAt s)]]) ∧ Ints w' v (decPts s) ∧ Below w.heap.size w w'
theorem drop_extract (s : ByteArray) (a : Nat) (_h : a ≤ s.size) : (s.extract a s.size).data.toList = s.data.toList.drop a := by
  rw [Lib.extract_data]
  rw [List.take_of_length_le]
  rw [List.length_drop, ← Lib.size_eq]; omega
theorem dec_bad_end (s : ByteArray) (a : Nat) (ps : List Nat) (h : Utf.Inv s.data.toList a ps) (hb : Utf.bad (s.data.toList.drop a)) (hlt : a < s.size) : decErr s = 30 ∧ decAt s = a ∧ decPts s = [] := by
  have := Utf.inv_end h hb
  have hB : decBad s = true := by unfold decBad; rw [this]; simpa using hlt
  unfold decErr decAt decPts
  rw [hB, this]; simp
theorem dec_good_end (s : ByteArray) (ps : List Nat) (h : Utf.Inv s.data.toList s.size ps) : decErr s = 0 ∧ decAt s = 0 ∧ decPts s = toI ps := by
  have hb : Utf.bad (s.data.toList.drop s.size) := by
    left; apply List.drop_eq_nil_of_le; rw [← Lib.size_eq]; exact Nat.le_refl _
  have := Utf.inv_end h hb
  have hB : decBad s = false := by unfold decBad; rw [this]; simp
  unfold decErr decAt decPts
  rw [hB, this]; simp
theorem first_bad (s : ByteArray) (a : Nat) (hlt : a < s.size) (h : Utf.bad (s.data.toList.drop a)) : fstP (s.extract a s.size) = 0 ∧ fstN (s.extract a s.size) = 0 := by
  have hne : s.data.toList.drop a ≠ [] := by
    intro e
    have := congrArg List.length e
    rw [List.length_drop, ← Lib.size_eq, List.length_nil] at this; omega
  unfold fstP fstN
  rw [drop_extract s a (by omega), Utf.first_eq _ hne, if_pos (h.resolve_left hne)]
  exact ⟨rfl, rfl⟩
theorem first_good (s : ByteArray) (a : Nat) (hlt : a < s.size) (h : ¬ Utf.bad (s.data.toList.drop a)) :
    fstP (s.extract a s.size) = ((Utf.dec (s.data.toList.drop a)).1 : Int) ∧ fstN (s.extract a s.size) = ((Utf.dec (s.data.toList.drop a)).2 : Int) := by
  have hne : s.data.toList.drop a ≠ [] := fun e => h (.inl e)
  unfold fstP fstN
  rw [drop_extract s a (by omega), Utf.first_eq _ hne, if_neg (fun e => h (.inr e))]
  exact ⟨rfl, rfl⟩
theorem toI_snoc (ps : List Nat) (p : Nat) : ints (toI (ps ++ [p])) = ints (toI ps) ++ [.int .i64 (p : Int)] := by simp [toI, ints]
theorem toI_length (ps : List Nat) : (toI ps).length = ps.length := by simp [toI]
set_option maxRecDepth 100000 in
set_option maxHeartbeats 1000000 in
theorem refDecode_any (s : ByteArray) (w : World) (hs : s.size ≤ 100000) (hF : FirstSaid) :
    Calls Tryz.prog 50 #[.string s] w (DecPost s w) := by
  unfold FirstSaid at hF
  have HF := Lib.hid hF
  clear hF
  obtain ⟨i0, hi, hz0, hz1, hz2⟩ := info_parts info_int
  go_enter Tryz.func50, Tryz.ntmps50
  go_wp2_with fail
  go_loopw [4, 5] (fun v i wr => ∃ (a : Nat) (ps : List Nat), Utf.Inv s.data.toList a ps ∧ i = .int .i64 (a : Int) ∧ wr.ownsRow (w.heap.size + 1) 3 1 v ps.length (ints (toI ps)) ∧ Below (w.heap.size + 1) (w.alloc (.cells #[.int .i64 0, .int .i64 0] 88)) wr) (fun _ i _ => s.size - (intOf i).toNat)
  case atStart => exact ⟨0, [], Utf.inv_start _, rfl, World.ownsRow_nil _ _ _ _, Below.refl _ _⟩
  case round =>
    obtain ⟨a, ps, hinv, rfl, hown, hbw⟩ := hrel
    have ha : a ≤ s.size := by have := hinv.1; rw [← Lib.size_eq] at this; exact this
    have hps := hinv.2.1
    have HI := Lib.hid hinv
    clear hinv
    by_cases hlt : a < s.size
    · by_cases hbad : Utf.bad (s.data.toList.drop a)
      · have HE := Lib.hid (dec_bad_end s a ps HI.out hbad hlt)
        have cF : ∀ W : World, Calls Tryz.prog 73 #[.string (s.extract a s.size)] W fun e w' => e = .returned (.tuple #[.int .i64 0, .int .i64 0]) ∧ Below W.heap.size W w' := by
          intro W
          have := HF.out (s.extract a s.size) W (by simp; omega)
          rw [(first_bad s a hlt hbad).1, (first_bad s a hlt hbad).2] at this
          exact this
        have HC := Lib.hid cF
        clear cF hbad
        go_wp2_with (go_at_call 73; refine (HC.out _).mono ?_; rintro e w1 ⟨rfl, hb1⟩; have hb2 := hbw.trans (hb1.mono (by have := hbw.size; simp at this; omega)); obtain ⟨q1, q2, q3, q4, q5⟩ := pair_cells hb2)
        refine bodyPost_ret (v := .tuple #[.slice none 0 0, .agg #[.int .i64 30, .int .i64 a]]) ?_ rfl ⟨.slice none 0 0, ?_, ?_, ?_⟩
        · simp [results, Tryz.results50, go_sem, q1, q2]
        · rw [HE.out.1, HE.out.2.1]
        · rw [HE.out.2.2]; exact Ints.nil _ _ _
        · exact ((below_first hb2).setCell (by simp) _).setCell (by simp) _
      · obtain ⟨p, n, hpn⟩ : ∃ p n, Utf.dec (s.data.toList.drop a) = (p, n) := ⟨_, _, rfl⟩
        have hne : s.data.toList.drop a ≠ [] := fun e => hbad (.inl e)
        have hpos := Utf.dec_pos _ hne
        rw [hpn, List.length_drop, ← Lib.size_eq] at hpos
        have hn1 : 1 ≤ n := hpos.1
        have hn2 : a + n ≤ s.size := by have := hpos.2; simp only at this; omega
        have HI2 := Lib.hid (Utf.inv_round HI.out hbad)
        rw [hpn] at HI2
        have cF : ∀ W : World, Calls Tryz.prog 73 #[.string (s.extract a s.size)] W fun e w' => e = .returned (.tuple #[.int .i64 (p : Int), .int .i64 (n : Int)]) ∧ Below W.heap.size W w' := by
          intro W
          have := HF.out (s.extract a s.size) W (by simp; omega)
          rw [(first_good s a hlt hbad).1, (first_good s a hlt hbad).2, hpn] at this
          exact this
        have HC := Lib.hid cF
        have hq : ((n : Int) == 0) = false := by simp; omega
        clear cF hbad hpn hne hpos
        go_wp2_with (first
          | (go_at_call 73; refine (HC.out _).mono ?_; rintro e w1 ⟨rfl, hb1⟩; have hb2 := hbw.trans (hb1.mono (by have := hbw.size; simp at this; omega)); have hown1 := owns_below hown hb1; have hzz := hb2.size)
          | (at_builtin; go_must (refine wpList_append_own _ rfl _ _ 86 rfl (w.heap.size + 1) 3 i0 (.int .i64 0) 1 8 Tryz.underlying86 hi hz0 hz1 hz2 rfl (by decide) _ _ _ rfl (hown1.alloc _) ⟨_, 0, none⟩ 1 1 [.int .i64 (p : Int)] rfl rfl ?c1 ?c2 ?c3 ?c4 ?c5 ?_)))
        case c1 => exact cell_one_new _ _ _
        case c2 => intro u hu; simp at hu; subst hu; rfl
        case c3 => unfold maxLen; omega
        case c4 => omega
        case c5 => simp at hzz ⊢; omega
        intro v' w2 hown2 hg2 _
        have hb3 := below_grown (hb2.alloc (by simp at hzz; omega) _) (hown1.alloc _) hg2 (by simp at hzz ⊢; omega)
        rw [← toI_snoc] at hown2
        clear hg2 hb2 hb1 hown1 hown hbw hzz
        go_wp2
        go_roundw
        case rel => exact ⟨a + n, ps ++ [p], HI2.out, by go_num, by simpa using hown2, hb3⟩
        case measure => simp [intOf]; omega
    · obtain rfl : a = s.size := by omega
      have HE := Lib.hid (dec_good_end s ps HI.out)
      obtain ⟨q1, q2, q3, q4, q5⟩ := pair_cells hbw
      go_wp2_with fail
      refine bodyPost_ret (v := .tuple #[u4, .agg #[.int .i64 0, .int .i64 0]]) ?_ rfl ⟨u4, ?_, ?_, ?_⟩
      · simp [results, Tryz.results50, go_sem, q1, q2]
      · rw [HE.out.1, HE.out.2.1]
      · rw [HE.out.2.2]; exact Ints.of_owns (ownsRow_setCell_below (ownsRow_setCell_below hown (by simp) _) (by simp) _) (toI_length ps)
      · exact ((below_first hbw).setCell (by simp) _).setCell (by simp) _
end Go.Proofs.YtlhpgkaffbgkgaaGreatDoor
