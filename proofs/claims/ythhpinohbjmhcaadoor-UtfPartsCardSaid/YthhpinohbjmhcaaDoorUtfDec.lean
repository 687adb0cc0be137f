/- utf.Decode: a walk. -/
import Derived.Test.YthhpinohbjmhcaaDoorShelf
import Derived.Test.YthhpinohbjmhcaaDoorUtfRef4
namespace Go.Proofs.YthhpinohbjmhcaaDoor
open Go.RowKit
theorem dec_eq (s : ByteArray) (h : 0 < s.size) : Lib.decodeGo s = Utf.dec s.data.toList := by
  have hne : s.data.toList ≠ [] := by
    intro e
    have := congrArg List.length e
    rw [← Lib.size_eq, List.length_nil] at this; omega
  have gb : ∀ i, (s.get! i).toNat = Utf.b s.data.toList i := by
    intro i
    unfold Utf.b
    rw [List.getD_eq_getElem?_getD]
    simp only [ByteArray.get!, getElem!_def, Array.getElem?_toList]
    cases s.data[i]? <;> rfl
  unfold Lib.decodeGo Utf.dec
  rw [if_neg (by omega), if_neg hne, Lib.decode_at, gb, gb, gb, gb, ← Lib.size_eq]
  simp only [Nat.zero_add, Nat.sub_zero]
  unfold Lib.decodeN Utf.decN
  repeat' split
  all_goals first | rfl | (exfalso; omega)
/-- the library's decoder behind a place, as a pair -/
theorem lib_dec (s : ByteArray) (a : Nat) (hlt : a < s.size) (W : World) (hT : Lib.Utf8Tabs 0 1 W) :
    Calls Tryd.prog 17 #[.string (s.extract a s.size)] W fun e w' => e = .returned (.tuple #[.int .i32 ((Utf.dec (s.data.toList.drop a)).1 : Int), .int .i64 ((Utf.dec (s.data.toList.drop a)).2 : Int)]) ∧ Below W.heap.size W w' := by
  have h := Tryd.utf8_DecodeRuneInString (s.extract a s.size) W hT
  rw [dec_eq _ (by simp; omega), drop_extract s a (by omega)] at h
  exact h
theorem tabs_below {B : Nat} {w w' : World} {a b : Nat} (hT : Lib.Utf8Tabs a b w) (h : Below B w w') (ha : a < B) (hb : b < B) : Lib.Utf8Tabs a b w' := by
  refine ⟨fun c hc => ?_, fun i hi => ⟨?_, ?_⟩⟩
  · rw [h.cell (p := ⟨a, c, none⟩) ha]; exact hT.1 c hc
  · rw [h.cell (p := ⟨b, 2 * i, none⟩) hb]; exact (hT.2 i hi).1
  · rw [h.cell (p := ⟨b, 2 * i + 1, none⟩) hb]; exact (hT.2 i hi).2
theorem tabs_size {w : World} {a b : Nat} (hT : Lib.Utf8Tabs a b w) : a < w.heap.size ∧ b < w.heap.size := by
  have h1 := hT.1 0 (by omega)
  have h2 := (hT.2 0 (by omega)).1
  have key : ∀ (p : Addr) v, w.cell? p = some v → p.block < w.heap.size := by
    intro p v h
    rcases Nat.lt_or_ge p.block w.heap.size with hg | hg
    · exact hg
    · unfold World.cell? at h; rw [Array.getElem?_eq_none hg] at h; cases h
  exact ⟨key _ _ h1, key _ _ h2⟩
set_option maxRecDepth 100000 in
set_option maxHeartbeats 1000000 in
theorem utfDecode_any (s : ByteArray) (w : World) (hs : s.size ≤ 100000) (hT : Lib.Utf8Tabs 0 1 w) :
    Calls Tryd.prog 10 #[.string s] w (DecPost s w) := by
  obtain ⟨i0, hi, hz0, hz1, hz2⟩ := info_parts info_int
  have hTs := tabs_size hT
  have HT := Lib.hid hT
  clear hT
  go_enter Tryd.func10, Tryd.ntmps10
  go_wp2_with fail
  go_step3
  go_wp2_with (at_make; go_must (refine wpList_make_own _ rfl _ _ 23 rfl (w.heap.size + 1) 3 i0 (.int .i64 0) 1 Tryd.underlying23 hi hz0 hz1 .i64 .i64 _ s.size rfl rfl (by rfl) (by rw [hz2]; omega) (by unfold maxLen; omega) (by simp) ?_; intro w0 hown0 hg0))
  go_step3
  go_wp2_with fail
  have hbw0 : Below (w.heap.size + 1) (w.alloc (.cells #[.int .i64 0, .int .i64 0] 26)) w0 := (Below.refl _ _).grown hg0 (by simp) (fun k hk => by cases hk)
  clear hg0
  go_loopw [4, 5] (fun v i wr => ∃ (a : Nat) (ps : List Nat), Utf.Inv s.data.toList a ps ∧ i = .int .i64 (a : Int) ∧ wr.ownsRow (w.heap.size + 1) 3 1 v ps.length (ints (toI ps)) ∧ Below (w.heap.size + 1) (w.alloc (.cells #[.int .i64 0, .int .i64 0] 26)) wr) (fun _ i _ => s.size - (intOf i).toNat)
  case atStart => exact ⟨0, [], Utf.inv_start _, rfl, by simpa [toI, ints] using hown0, hbw0⟩
  case round =>
    obtain ⟨a, ps, hinv, rfl, hown, hbw⟩ := hrel
    clear hown0 hbw0
    have ha : a ≤ s.size := by have := hinv.1; rw [← Lib.size_eq] at this; exact this
    have hps := hinv.2.1
    have HI := Lib.hid hinv
    clear hinv
    by_cases hlt : a < s.size
    · have HC := Lib.hid (lib_dec s a hlt)
      by_cases hbad : Utf.bad (s.data.toList.drop a)
      · have HE := Lib.hid (dec_bad_end s a ps HI.out hbad hlt)
        have hne : s.data.toList.drop a ≠ [] := by
          intro e
          have := congrArg List.length e
          rw [List.length_drop, ← Lib.size_eq, List.length_nil] at this; omega
        rw [hbad.resolve_left hne] at HC
        clear hbad hne
        go_wp2_with (go_at_call 17; refine (HC.out _ (tabs_below HT.out (below_first hbw) hTs.1 hTs.2)).mono ?_; rintro e w1 ⟨rfl, hb1⟩; have hb2 := hbw.trans (hb1.mono (by have := hbw.size; simp at this; omega)); have hown1 := owns_below hown hb1; have hzz := hb2.size; obtain ⟨q1, q2, q3, q4, q5⟩ := pair_cells hb2)
        refine bodyPost_ret (v := .tuple #[.slice none 0 0, .agg #[.int .i64 30, .int .i64 a]]) ?_ rfl ⟨.slice none 0 0, ?_, ?_, ?_⟩
        · simp [results, Tryd.results10, go_sem, q1, q2]
        · rw [HE.out.1, HE.out.2.1]
        · rw [HE.out.2.2]; exact Ints.nil _ _ _
        · exact ((below_first hb2).setCell (by simp) _).setCell (by simp) _
      · obtain ⟨p, n, hpn⟩ : ∃ p n, Utf.dec (s.data.toList.drop a) = (p, n) := ⟨_, _, rfl⟩
        have hne : s.data.toList.drop a ≠ [] := fun e => hbad (.inl e)
        have hnn : Utf.dec (s.data.toList.drop a) ≠ (65533, 1) := fun e => hbad (.inr e)
        have hpos := Utf.dec_pos _ hne
        have hgd := (Utf.dec_good _ hne hnn).1
        rw [hpn, List.length_drop, ← Lib.size_eq] at hpos
        rw [hpn] at hgd hnn
        have hp1 : p ≤ 1114111 := by unfold Utf.good at hgd; simp only at hgd; omega
        have hn1 : 1 ≤ n := hpos.1
        have hn2 : a + n ≤ s.size := by have := hpos.2; simp only at this; omega
        have HI2 := Lib.hid (Utf.inv_round HI.out hbad)
        rw [hpn] at HI2 HC
        clear hbad hpn hne hpos hgd
        by_cases hp : p = 65533
        · subst hp
          have hq : ((n : Int) == 1) = false := by
            simp; intro h; have h' : n = 1 := by omega
            subst h'; exact hnn rfl
          clear hnn hp1
          go_wp2_with (first
            | (go_at_call 17; refine (HC.out _ (tabs_below HT.out (below_first hbw) hTs.1 hTs.2)).mono ?_; rintro e w1 ⟨rfl, hb1⟩; have hb2 := hbw.trans (hb1.mono (by have := hbw.size; simp at this; omega)); have hown1 := owns_below hown hb1; have hzz := hb2.size)
            | (at_builtin; go_must (refine wpList_append_own _ rfl _ _ 23 rfl (w.heap.size + 1) 3 i0 (.int .i64 0) 1 8 Tryd.underlying23 hi hz0 hz1 hz2 rfl (by decide) _ _ _ rfl (hown1.alloc _) ⟨_, 0, none⟩ 1 1 [.int .i64 (65533 : Int)] rfl rfl ?c1 ?c2 ?c3 ?c4 ?c5 ?_)))
          case c1 => exact cell_one_new _ _ _
          case c2 => intro u hu; simp at hu; subst hu; rfl
          case c3 => unfold maxLen; omega
          case c4 => omega
          case c5 => simp at hzz ⊢; omega
          intro v' w2 hown2 hg2 _
          have hb3 := below_grown (hb2.alloc (by simp at hzz; omega) _) (hown1.alloc _) hg2 (by simp at hzz ⊢; omega)
          rw [show ints (toI ps) ++ [Value.int .i64 (65533 : Int)] = ints (toI (ps ++ [65533])) from (toI_snoc ps 65533).symm] at hown2
          clear hg2 hb2 hb1 hown1 hown hbw hzz
          go_wp2
          go_roundw
          case rel => exact ⟨a + n, ps ++ [65533], HI2.out, by go_num, by simpa using hown2, hb3⟩
          case measure => simp [intOf]; omega

        · have hq : ((p : Int) == 65533) = false := by simp; omega
          clear hnn hp
          go_wp2_with (first
            | (go_at_call 17; refine (HC.out _ (tabs_below HT.out (below_first hbw) hTs.1 hTs.2)).mono ?_; rintro e w1 ⟨rfl, hb1⟩; have hb2 := hbw.trans (hb1.mono (by have := hbw.size; simp at this; omega)); have hown1 := owns_below hown hb1; have hzz := hb2.size)
            | (at_builtin; go_must (refine wpList_append_own _ rfl _ _ 23 rfl (w.heap.size + 1) 3 i0 (.int .i64 0) 1 8 Tryd.underlying23 hi hz0 hz1 hz2 rfl (by decide) _ _ _ rfl (hown1.alloc _) ⟨_, 0, none⟩ 1 1 [.int .i64 (p : Int)] rfl rfl ?c1 ?c2 ?c3 ?c4 ?c5 ?_)))
          case c1 => exact cell_one_new _ _ _
          case c2 => intro u hu; simp at hu; subst hu; rfl
          case c3 => unfold maxLen; omega
          case c4 => omega
          case c5 => simp at hzz ⊢; omega
          intro v' w2 hown2 hg2 _
          have hb3 := below_grown (hb2.alloc (by simp at hzz; omega) _) (hown1.alloc _) hg2 (by simp at hzz ⊢; omega)
          rw [← toI_snoc] at hown2
          clear hg2 hb2 hb1 hown1 hown hbw hzz
          go_wp2
          go_roundw
          case rel => exact ⟨a + n, ps ++ [p], HI2.out, by go_num, by simpa using hown2, hb3⟩
          case measure => simp [intOf]; omega

    · obtain rfl : a = s.size := by omega
      have HE := Lib.hid (dec_good_end s ps HI.out)
      obtain ⟨q1, q2, q3, q4, q5⟩ := pair_cells hbw
      go_wp2_with fail
      refine bodyPost_ret (v := .tuple #[u4, .agg #[.int .i64 0, .int .i64 0]]) ?_ rfl ⟨u4, ?_, ?_, ?_⟩
      · simp [results, Tryd.results10, go_sem, q1, q2]
      · rw [HE.out.1, HE.out.2.1]
      · rw [HE.out.2.2]; exact Ints.of_owns (ownsRow_setCell_below (ownsRow_setCell_below hown (by simp) _) (by simp) _) (toI_length ps)
      · exact ((below_first hbw).setCell (by simp) _).setCell (by simp) _
end Go.Proofs.YthhpinohbjmhcaaDoor
