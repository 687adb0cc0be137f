/- The reference's commands: Split: a walk. -/
import Derived.Test.YtboajinaiceekaaGreatDoorSemRefA
import Derived.Test.YtboajinaiceekaaGreatDoorLockPlain
import Derived.Test.YtboajinaiceekaaGreatDoorSemCom
namespace Go.Proofs.YtboajinaiceekaaGreatDoor
open Go.RowKit
def SplRel (c : UInt8) (s : ByteArray) (w : World) (v i : Value) (wr : World) : Prop :=
  ∃ (k g cap m : Nat) (init : List (List UInt8)) (last : List UInt8), k ≤ s.size ∧ i = .int .i64 (k : Int) ∧ v = .slice (some ⟨g, 0, none⟩) (m + 1) cap ∧ init.length = m ∧ m ≤ k ∧ last.length ≤ k ∧
    init ++ [last] = sepAt c (s.data.toList.take k) ∧ wr.ownsRow w.heap.size 9 1 v (m + 1) (strs (init ++ [last])) ∧ Below w.heap.size w wr
set_option maxRecDepth 100000 in
set_option maxHeartbeats 1000000 in
theorem refSplit_any (c : UInt8) (s : ByteArray) (w : World) (hs : s.size ≤ 100000) :
    Calls Tryz.prog 18 #[.string s, .int .u8 (c.toNat : Int)] w fun e w' => ∃ v n, e = .returned v ∧ w'.ownsRow w.heap.size 9 1 v n (strs (sepAt c s.data.toList)) ∧ Below w.heap.size w w' := by
  obtain ⟨i0, hi, hz0, hz1, hz2⟩ := info_parts info_string
  go_enter Tryz.func18, Tryz.ntmps18
  go_wp2_with fail
  go_loopw [5, 6] (fun v i wr => SplRel c s w v i wr) (fun _ i _ => s.size - (intOf i).toNat)
  case atStart =>
    refine ⟨0, w.heap.size, 1, 0, [], [], Nat.zero_le _, rfl, rfl, rfl, Nat.le_refl _, Nat.le_refl _, rfl, ?_, (Below.refl _ _).alloc (Nat.le_refl _) _⟩
    exact ⟨rfl, .inr ⟨w.heap.size, 1, _, rfl, Nat.le_refl _, Below_heap_new w _, Nat.le_refl _, by decide, rfl, rfl⟩⟩
  case round =>
    obtain ⟨k, g, cap, m, init, last, hk, rfl, rfl, hm, hmk, hlk, hdots, hown, hbw⟩ := hrel
    by_cases hlt : k < s.size
    · obtain ⟨x, hx⟩ : ∃ x, s[k] = x := ⟨_, rfl⟩
      have c1 : wr.cell? ⟨g, m, none⟩ = some (.string (S last)) := by
        have := World.ownsRow.cellAt hown m (by omega)
        rw [this]; simp [strs, ← hm]
      have c2 : wr.frozen? ⟨g, m, none⟩ = false := World.ownsRow.frozenAt hown m
      have HO := Lib.hid hown
      have HD := Lib.hid hdots
      have HM := Lib.hid hm
      have hsz : (S last).size ≤ 100000 := by rw [S_size]; omega
      have hg := (hown.lt g rfl).1
      obtain ⟨lst, hl⟩ : ∃ t, t = S last := ⟨_, rfl⟩
      have HLs := Lib.hid hl
      rw [← hl] at c1 hsz
      clear hown hdots hm hl
      by_cases hc : x = c
      · have q1 : ((x.toNat : Int) == (c.toNat : Int)) = true := by rw [hc]; exact beq_self_eq_true _
        have hx32 := Lib.hid hc
        have hzw := hbw.size
        go_wp2_with (at_builtin; go_must (refine wpList_append_own _ rfl _ _ 41 rfl w.heap.size 9 i0 (.string ⟨#[]⟩) 1 16 Tryz.underlying41 hi hz0 hz1 hz2 rfl (by decide) _ _ _ rfl (HO.out.alloc _) ⟨_, 0, none⟩ 1 1 [.string ⟨#[]⟩] rfl rfl ?c1 ?c2 ?c3 ?c4 ?c5 ?_))
        case c1 => exact cell_one_new _ _ _
        case c2 => intro u hu; simp at hu; subst hu; rfl
        case c3 => unfold maxLen; omega
        case c4 => omega
        case c5 => simp; omega
        intro v' w2 hown2 hg2 _
        have hb3 := below_grown (hbw.alloc hzw _) (HO.out.alloc _) hg2 (by simp; omega)
        obtain ⟨g2, cap2, hv2⟩ := Joins.ownsRow_form hown2 (by omega)
        subst hv2
        have HO2 := Lib.hid hown2
        clear hg2 hown2
        go_wp2
        go_roundw
        case rel =>
          refine ⟨k + 1, g2, cap2, m + 1, init ++ [last], [], by omega, by go_num, rfl, by simp [HM.out], by omega, by simp, ?_, ?_, hb3⟩
          · rw [take_byte s k hlt, hx, sepAt_snoc, ← HD.out, hx32.out]
            simp [sepSnoc]
          · have h := HO2.out
            have e : strs (init ++ [last]) ++ [.string ⟨#[]⟩] = strs (init ++ [last] ++ [[]]) := by simp [strs]; rfl
            rw [e] at h
            exact h
        case measure => simp [intOf]; omega
      · have q1 : ((x.toNat : Int) == (c.toNat : Int)) = false := by rw [beq_eq_false_iff_ne]; intro h; exact hc (UInt8.toNat_inj.1 (by show x.toNat = c.toNat; omega))
        have j1 : (m : Int) < (m : Int) + 1 := by omega
        have j2 : (0 : Int) ≤ (m : Int) := by omega
        have j3 : (k : Int) < (s.size : Int) := by omega
        go_wp2_with fail
        go_region
        go_wp2_with fail
        go_roundw
        case rel =>
          refine ⟨k + 1, g, cap, m, init, last ++ [x], by omega, by go_num, rfl, HM.out, by omega, by simp; omega, ?_, ?_, ?_⟩
          · have hx32 : x ≠ c := hc
            rw [take_byte s k hlt, hx, sepAt_snoc, ← HD.out]
            simp [sepSnoc, hx32]
          · have h := owns_below (World.ownsRow.stored HO.out m (.string (lst ++ s.extract k (k + 1)))).1 (Below.refl _ _).drew
            have e1 : lst ++ s.extract k (k + 1) = S (last ++ [x]) := by
              rw [HLs.out, ← S_append, ← hx, one_byte s k hlt]
            have e2 : (strs (init ++ [last])).set m (.string (lst ++ s.extract k (k + 1))) = strs (init ++ [last ++ [x]]) := by
              rw [e1, ← HM.out]; simp [strs]
            rw [e2] at h
            exact h
          · exact (hbw.setCell hg _).drew
        case measure => simp [intOf]; omega
    · obtain rfl : k = s.size := by omega
      rw [List.take_of_length_le (by rw [← Lib.size_eq]; exact Nat.le_refl _)] at hdots
      rw [hdots] at hown
      have HO := Lib.hid hown
      clear hown hdots hm
      go_wp2_with fail
      go_ret
      exact ⟨_, _, rfl, HO.out, hbw⟩
end Go.Proofs.YtboajinaiceekaaGreatDoor
