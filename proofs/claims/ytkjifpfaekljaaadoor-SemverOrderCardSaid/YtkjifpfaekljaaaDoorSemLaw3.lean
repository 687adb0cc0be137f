/- The laws SemverOrder, SemverBack: walks. -/
import Derived.Test.YtkjifpfaekljaaaDoorSemLaw2
import Derived.Test.YtkjifpfaekljaaaDoorSemMath8
import Derived.Test.YtkjifpfaekljaaaDoorRows2
namespace Go.Proofs.YtkjifpfaekljaaaDoor
open Go.RowKit
theorem verErr_cases (a b c : Int) (p : List UInt8) : (verErr a b c p = 0 ∧ verOk a b c p = true) ∨ verErr a b c p = 40 := by
  unfold verErr
  cases verOk a b c p
  · right; rfl
  · left; exact ⟨rfl, rfl⟩
set_option maxRecDepth 100000 in
set_option maxHeartbeats 4000000 in
theorem semverBack_walk (a b c : Int) (p : ByteArray) (s : ByteArray) (w : World) (hE : Env w) (hp : p.size ≤ 9223372036854775807) (hs : s.size < 4294967281) :
    Calls Tryd.prog 6 #[.agg #[.int .i64 a, .int .i64 b, .int .i64 c, .string p], .string s] w fun e w' => e = .returned (.bool true) ∧ Below w.heap.size w w' := by
  have HE := Lib.hid hE
  clear hE
  have hX0 := Below.refl (w.heap.size + 1) (w.alloc (.cells #[.int .i64 a, .int .i64 b, .int .i64 c, .string p] 23))
  have hsecond : (ParseIs s.data.toList 0 0 0 [] 40) ∨ ∃ (A B C : Nat) (P : List UInt8), ParseIs s.data.toList A B C P 0 ∧ verOk A B C P = true ∧ showL A B C P = s.data.toList ∧ A ≤ 999999 ∧ B ≤ 999999 ∧ C ≤ 999999 ∧ P.length ≤ 24 := by
    by_cases h : ∃ a b c p, IsShow a b c p s.data.toList
    · obtain ⟨a, b, c, p, h⟩ := h
      have hb := verOk_bounds h.1
      obtain ⟨A, rfl⟩ : ∃ A : Nat, a = A := ⟨a.toNat, by omega⟩
      obtain ⟨B, rfl⟩ : ∃ B : Nat, b = B := ⟨b.toNat, by omega⟩
      obtain ⟨C, rfl⟩ : ∃ C : Nat, c = C := ⟨c.toNat, by omega⟩
      exact .inr ⟨A, B, C, p, parse_yes h, h.1, by simpa using h.2, by omega, by omega, by omega, hb.2.2.2.2.2.2.1⟩
    · exact .inl (parse_no fun a b c p hh => h ⟨a, b, c, p, hh⟩)
  have HSec := Lib.hid hsecond
  clear hsecond
  obtain ⟨r, hr⟩ : ∃ r, verErr a b c p.data.toList = r := ⟨_, rfl⟩
  have HR := Lib.hid hr
  have hrc : r = 40 ∨ (r = 0 ∧ ∃ (A B C : Nat), a = A ∧ b = B ∧ c = C ∧ A ≤ 999999 ∧ B ≤ 999999 ∧ C ≤ 999999 ∧ p.size ≤ 24 ∧ verOk a b c p.data.toList = true) := by
    rcases verErr_cases a b c p.data.toList with ⟨h1, h2⟩ | h1
    · right
      have hb := verOk_bounds h2
      exact ⟨by omega, a.toNat, b.toNat, c.toNat, by omega, by omega, by omega, by omega, by omega, by omega, by rw [Lib.size_eq]; exact hb.2.2.2.2.2.2.1, h2⟩
    · left; omega
  clear hr
  go_enter Tryd.func6, Tryd.ntmps6
  go_wp2_with fail
  refine (checkP_as a b c p r HR.out _ (HE.out.alloc _) hp).mono ?_
  rintro e w1 ⟨rfl, hb1⟩
  have hx := box_of hb1
  have hW := below_first hx
  clear hb1 hX0
  go_upto_if 15 with fail
  go_cut [5] (fun _ wx => Below w.heap.size w wx)
  case first =>
    rcases hrc with rfl | ⟨rfl, A, B, C, rfl, rfl, rfl, hA, hB, hC, hps, hok⟩
    · go_wp2_with fail
      go_meet
      exact hW
    · have v0 := box_cells hx 0
      have v1 := box_cells hx 1
      have v2 := box_cells hx 2
      have v3 := box_cells hx 3
      simp at v0 v1 v2 v3
      obtain ⟨t, ht⟩ : ∃ t, S (showL A B C p.data.toList) = t := ⟨_, rfl⟩
      have hSh := fun w hE => show_yes A B C p w hE hps hA hB hC HR.out
      rw [ht] at hSh
      have HSh := Lib.hid hSh
      have HP : Hid (ParseIs t.data.toList A B C p.data.toList 0) := by
        refine parse_yes ⟨hok, ?_⟩
        rw [← ht, S_data]; simp
      have htz : t.size < 4294967281 := by
        rw [← ht, S_size]
        have := showL_len (a := A) (b := B) (c := C) (p := p.data.toList) hA hB hC (by rw [← Lib.size_eq]; exact hps)
        omega
      have hv : ∀ W, (Op.equalIn 10000 23 (.agg #[.int .i64 A, .int .i64 B, .int .i64 C, .string p]) (.agg #[.int .i64 A, .int .i64 B, .int .i64 C, .string p])).run Tryd.prog W = .ok true W := fun W => ver_eq _ _ _ _ _ _ _ _ true (by simp) W
      clear ht hSh hok
      go_wp2_with fail
      refine (HSh.out _ (HE.out.below hW)).mono ?_
      rintro e w2 ⟨rfl, hb2⟩
      have hx2 := box_then hx hb2
      have hW2 := below_first hx2
      have v0 := box_cells hx2 0
      have v1 := box_cells hx2 1
      have v2 := box_cells hx2 2
      have v3 := box_cells hx2 3
      simp at v0 v1 v2 v3
      clear hb2
      go_wp2_with fail
      refine (parse_any t _ (HE.out.below hW2) htz).mono ?_
      rintro e w3 ⟨a', b', c', p', er, rfl, hp3, hb3⟩
      obtain ⟨rfl, rfl, rfl, rfl, rfl⟩ := ParseIs.uniq hp3 HP.out
      have hx3 := box_then hx2 hb3
      have hW3 := below_first hx3
      have v0 := box_cells hx3 0
      have v1 := box_cells hx3 1
      have v2 := box_cells hx3 2
      have v3 := box_cells hx3 3
      simp at v0 v1 v2 v3
      have hz := cell_lt v0
      rw [S_of]
      clear hp3 hb3
      go_wp2_with fail
      go_meet
      exact hW3.alloc hW3.size _
  case rest =>
    have hWc := hcut
    clear hcut hrc
    go_wp2_with fail
    refine (parse_any s _ (HE.out.below hWc) hs).mono ?_
    rintro e w2 ⟨a', b', c', p', er, rfl, hp2, hb2⟩
    have hW2 := below_then hWc hb2
    rcases HSec.out with h40 | ⟨A, B, C, P, h0, hok, hsh, hA, hB, hC, hPl⟩
    · obtain ⟨rfl, rfl, rfl, rfl, rfl⟩ := ParseIs.uniq hp2 h40
      have hv : ∀ W, (Op.equalIn 10000 23 (.agg #[.int .i64 0, .int .i64 0, .int .i64 0, .string (S [])]) (.agg #[.int .i64 0, .int .i64 0, .int .i64 0, .string ⟨#[]⟩])).run Tryd.prog W = .ok true W := fun W => ver_eq _ _ _ _ _ _ _ _ true (by simp [S]) W
      clear hp2 hb2 h40
      go_wp2_with fail
      refine (awake_any _ (HE.out.below (hW2.alloc hW2.size _))).mono ?_
      rintro e w3 ⟨rfl, hb3⟩
      go_wp2_with fail
      go_ret
      exact ⟨rfl, below_then (hW2.alloc hW2.size _) hb3⟩
    · obtain ⟨rfl, rfl, rfl, rfl, rfl⟩ := ParseIs.uniq hp2 h0
      have hPz : (S p').size ≤ 24 := by rw [S_size]; exact hPl
      have h0' : verErr A B C (S p').data.toList = 0 := by rw [S_data]; unfold verErr; rw [hok]; rfl
      have hSh := fun w hE => show_yes A B C (S p') w hE hPz hA hB hC h0'
      rw [S_data, hsh, S_of] at hSh
      have HSh := Lib.hid hSh
      have H0 := Lib.hid h0'
      clear hp2 hb2 h0 hok hsh hPl h0' hSh
      go_wp2_with fail
      refine (HSh.out _ (HE.out.below (hW2.alloc hW2.size _))).mono ?_
      rintro e w3 ⟨rfl, hb3⟩
      have hx3 := box_of hb3
      have v0 := box_cells hx3 0
      have v1 := box_cells hx3 1
      have v2 := box_cells hx3 2
      have v3 := box_cells hx3 3
      simp at v0 v1 v2 v3
      have hW3 := below_then hW2 (below_first hx3)
      clear hb3
      go_wp2_with fail
      refine (checkP_as A B C (S p') 0 H0.out _ (HE.out.below hW3) (by omega)).mono ?_
      rintro e w4 ⟨rfl, hb4⟩
      have hW4 := below_then hW3 hb4
      clear hb4
      go_wp2_with fail
      refine (awake_any _ (HE.out.below hW4)).mono ?_
      rintro e w5 ⟨rfl, hb5⟩
      go_wp2_with fail
      go_ret
      exact ⟨rfl, below_then hW4 hb5⟩
end Go.Proofs.YtkjifpfaekljaaaDoor
