/- The reference's TakeNumber: a walk. -/
import Derived.Test.YtlhpgkaffbgkgaaGreatDoorOctRef1
import Derived.Test.YtlhpgkaffbgkgaaGreatDoorOct3
namespace Go
open Go.Oct
theorem ext_list (s : ByteArray) (a : Nat) (_h : a ≤ s.size) : (s.extract a s.size).data.toList = s.data.toList.drop a := by
  rw [Lib.extract_data, List.take_of_length_le]
  rw [List.length_drop, ← Lib.size_eq]; omega
theorem tN_big {x : UInt8} {r : List UInt8} {k : Nat} (hx : x.toNat = k + 247) (hk : 0 < k) : tN (x :: r) = if r.length < k then (0, 0, 10) else if numL (ofBE (r.take k)) = x :: r.take k then (ofBE (r.take k), k + 1, 0) else (0, 0, 11) := by
  rw [tN, if_neg (by omega), hx, Nat.add_sub_cancel]
  by_cases h : r.length < k
  · rw [if_pos h, if_pos h]
  · rw [if_neg h, if_neg h]
    have hi := num_iff (x := x) (r := r.take k) (by omega) (by rw [List.length_take]; omega)
    rw [hx, Nat.add_sub_cancel] at hi
    by_cases h2 : 248 ≤ ofBE (r.take k) ∧ bw (ofBE (r.take k)) = k
    · rw [if_pos h2, if_pos (hi.2 h2)]
    · rw [if_neg h2, if_neg (fun g => h2 (hi.1 g))]
end Go
namespace Go.Proofs.YtlhpgkaffbgkgaaGreatDoor
open Go.RowKit Go.Oct
def RTRel (d : ByteArray) (k : Nat) (nv iv : Value) : Prop := ∃ i m : Nat, 1 ≤ i ∧ i ≤ k + 1 ∧ iv = .int .i64 (i : Int) ∧ zN d 1 (i - 1) = m ∧ nv = .int .u64 (m : Int)
theorem rnumber_keep (N : Nat) (h : N < 18446744073709551616) (A : ByteArray) (hA : S (numL N) = A) (w W : World) (hb : Below w.heap.size w W) : Calls Tryz.prog 51 #[.int .u64 (N : Int)] W fun e w' => e = .returned (.string A) ∧ Below w.heap.size w w' :=
  (rnumber_as N h W).mono fun _ _ ⟨he, hb'⟩ => ⟨by rw [he, hA], hb.trans (hb'.mono hb.size)⟩
theorem rtN_ret {s : ByteArray} {a n u : Nat} {w w' : World} {v : Value} {m : Int} (h : tN (s.data.toList.drop a) = (n, u, 0)) (hv : v = .int .u64 (n : Int)) (hm : m = ((a + u : Nat) : Int)) (hb : Below w.heap.size w w') : TakeNPost s a w (.returned (.tuple #[v, .int .i64 m, .int .i64 0])) w' := by
  subst hv; exact takeN_ret h hm hb
set_option maxRecDepth 100000 in
set_option maxHeartbeats 2000000 in
theorem rtake_number_any (s : ByteArray) (a : Nat) (ha : a ≤ s.size) (hs : s.size ≤ 100000) (w : World) : Calls Tryz.prog 58 #[.string s, .int .i64 (a : Int)] w (TakeNPost s a w) := by
  have q1 : decide (s.size < a) = false := by simp; omega
  obtain ⟨d, hd⟩ : ∃ d, s.extract a s.size = d := ⟨_, rfl⟩
  have HD : Hid (d.data.toList = s.data.toList.drop a) := by show _ = _; rw [← hd]; exact ext_list s a ha
  have hds : d.size ≤ 100000 := by rw [← hd]; simp; omega
  by_cases h0 : d.size = 0
  · have HN : Hid (tN (s.data.toList.drop a) = (0, 0, 10)) := by
      show _ = _
      rw [← HD.out, show d.data.toList = [] from List.eq_nil_of_length_eq_zero (by rw [← Lib.size_eq]; exact h0)]; rfl
    have hem : d.toList.isEmpty = true := by rw [Lib.toList_data, show d.data.toList = [] from List.eq_nil_of_length_eq_zero (by rw [← Lib.size_eq]; exact h0)]; rfl
    clear h0
    go_enter Tryz.func58, Tryz.ntmps58
    go_wp2_with fail
    go_ret3
    exact takeN_err HN.out (by decide) (Below.refl _ _)
  have hpos : 0 < d.size := by omega
  have hbh : d.data.toList = d[0] :: d.data.toList.drop 1 := by
    have hl : 0 < d.data.toList.length := by rw [← Lib.size_eq]; exact hpos
    have := List.drop_eq_getElem_cons hl
    rw [List.drop_zero] at this
    exact this
  have hem : d.toList.isEmpty = false := by rw [Lib.toList_data, hbh]; rfl
  have hi0 : (0 : Int) < (d.size : Int) := by omega
  obtain ⟨x, hx⟩ : ∃ x, d[0] = x := ⟨_, rfl⟩
  rw [hx] at hbh
  have HB := Lib.hid hbh
  have hx2 := x.toNat_lt
  clear h0 hbh
  by_cases h247 : x.toNat ≤ 247
  · have q2 : decide ((x.toNat : Int) ≤ 247) = true := by simp; omega
    have HN : Hid (tN (s.data.toList.drop a) = (x.toNat, 1, 0)) := by show _ = _; rw [← HD.out, HB.out, tN, if_pos h247]
    go_enter Tryz.func58, Tryz.ntmps58
    go_wp2_with fail
    go_ret3
    exact rtN_ret HN.out rfl (by omega) (Below.refl _ _)
  obtain ⟨k, hk⟩ : ∃ k, x.toNat = k + 247 := ⟨x.toNat - 247, by omega⟩
  have hk0 : 0 < k := by omega
  have hk8 : k ≤ 8 := by omega
  have HT := Lib.hid (tN_big (r := d.data.toList.drop 1) hk hk0)
  have q2 : decide ((k : Int) + 247 ≤ 247) = false := by simp; omega
  have hdl : (d.data.toList.drop 1).length = d.size - 1 := by rw [List.length_drop, ← Lib.size_eq]
  have HDL := Lib.hid hdl
  clear hx2 h247 hdl
  by_cases hsh : d.size < k + 1
  · have q3 : decide ((d.size : Int) < (k : Int) + 1) = true := by simp; omega
    have HN : Hid (tN (s.data.toList.drop a) = (0, 0, 10)) := by show _ = _; rw [← HD.out, HB.out, HT.out, if_pos (by rw [HDL.out]; omega)]
    go_enter Tryz.func58, Tryz.ntmps58
    go_wp2_with fail
    go_ret3
    exact takeN_err HN.out (by decide) (Below.refl _ _)
  have q3 : decide ((d.size : Int) < (k : Int) + 1) = false := by simp; omega
  go_enter Tryz.func58, Tryz.ntmps58
  go_wp2_with fail
  go_loop [8, 9] (fun nv iv => RTRel d k nv iv) (fun _ iv => (k + 2 - (intOf iv).toNat))
  case atStart => exact ⟨1, 0, Nat.le_refl _, by omega, rfl, rfl, rfl⟩
  case round =>
    obtain ⟨i, m, hi1, hik, rfl, hm, rfl⟩ := hrel
    have hzl := zN_lt d 1 (i - 1)
    rw [hm] at hzl
    have HM := Lib.hid hm
    clear hm
    by_cases hlt : i ≤ k
    · have hml := Nat.pow_le_pow_right (show 0 < 256 by decide) (show i - 1 ≤ 7 by omega)
      have hm7 : m < 72057594037927936 := Nat.lt_of_lt_of_le hzl hml
      have hid : i < d.size := by omega
      have hid' : (i : Int) < (d.size : Int) := by omega
      have hi0' : (0 : Int) ≤ (i : Int) := by omega
      obtain ⟨y, hy⟩ : ∃ y, d[i] = y := ⟨_, rfl⟩
      have hy2 := y.toNat_lt
      have HZ : Hid (zN d 1 (i + 1 - 1) = m * 256 + y.toNat) := by
        show _ = _
        obtain ⟨j, rfl⟩ : ∃ j, i = j + 1 := ⟨i - 1, by omega⟩
        rw [Nat.add_sub_cancel, zN]
        rw [Nat.add_sub_cancel] at HM
        rw [HM.out]
        have : byteAt d (1 + j) = y := by
          rw [← hy]
          unfold byteAt
          rw [Nat.add_comm 1 j, List.getD_eq_getElem?_getD, List.getElem?_eq_getElem (by rw [← Lib.size_eq]; exact hid)]; rfl
        rw [this]
      clear hzl hml
      go_wp2_with fail
      go_round
      case rel => exact ⟨i + 1, m * 256 + y.toNat, by omega, by omega, by go_num, HZ.out, by go_num⟩
      case measure => simp [intOf]; omega
    · have hie : Hid (i = k + 1) := by show i = k + 1; omega
      have hN : Hid (ofBE ((d.data.toList.drop 1).take k) = m) := by
        show _ = _
        rw [← zN_be d 1 k (by omega), ← HM.out, hie.out, Nat.add_sub_cancel]
      have hm8 : m < 18446744073709551616 := by
        have hml := Nat.pow_le_pow_right (show 0 < 256 by decide) (show i - 1 ≤ 8 by omega)
        exact Nat.lt_of_lt_of_le hzl hml
      obtain ⟨A, hA⟩ : ∃ A, S (numL m) = A := ⟨_, rfl⟩
      have HA := Lib.hid hA
      have HX : Hid ((d.extract 0 (k + 1)).toList = x :: (d.data.toList.drop 1).take k) := by
        show _ = _
        rw [Lib.toList_data, Lib.extract_data, HB.out]
        simp
      have HT2 : Hid (tN (s.data.toList.drop a) = if A.toList = (d.extract 0 (k + 1)).toList then (m, k + 1, 0) else (0, 0, 11)) := by
        show _ = _
        rw [← HD.out, HB.out, HT.out, if_neg (by rw [HDL.out]; omega), hN.out, HX.out, ← hA, S_toList]
      clear hzl hA
      by_cases hg : A.toList = (d.extract 0 (k + 1)).toList
      · have HN : Hid (tN (s.data.toList.drop a) = (m, k + 1, 0)) := by show _ = _; rw [HT2.out, if_pos hg]
        have q5 : (A.toList == (d.extract 0 (k + 1)).toList) = true := by simpa using hg
        clear hg
        go_wp2_with fail
        have hb1 : (k : Int) + 1 ≤ (d.size : Int) := by omega
        have hb2 : (0 : Int) ≤ (k : Int) + 1 := by omega
        have hb3 : ((k : Int) + 1).toNat = k + 1 := by omega
        have hb4 : k + 1 ≤ d.size := by omega
        have hsl : ∀ W, (Instr.slice 9 (.string d) none (some (.int .i64 ((k : Int) + 1))) none).run Tryz.prog W = .ok (.string (d.extract 0 (k + 1))) W := fun W => by
          have := run_slice_string_to_if (P := Tryz.prog) W 9 d .i64 ((k : Int) + 1) Tryz.underlying9
          rw [if_pos ⟨hb2, hb1⟩, hb3] at this
          exact this
        have hwr : IntKind.i64.wrap ((k : Int) + 1) = (k : Int) + 1 := by rw [IntKind.wrap_i64]; omega
        have hd0 : Below w.heap.size w w.drew := (Below.refl _ _).drew
        go_region_held3 (fun w' => Below w.heap.size w w') (go_keep) ((go_at_call 51; refine (rnumber_keep m hm8 A HA.out w _ (by assumption)).mono ?_; rintro e w3 ⟨rfl, hk3⟩))
        clear hsl hwr hb3
        go_wp2_with fail
        go_ret3
        exact rtN_ret HN.out rfl (by omega) hk3
      · have HN : Hid (tN (s.data.toList.drop a) = (0, 0, 11)) := by show _ = _; rw [HT2.out, if_neg hg]
        have q5 : (A.toList == (d.extract 0 (k + 1)).toList) = false := by simpa using hg
        clear hg
        go_wp2_with fail
        have hb1 : (k : Int) + 1 ≤ (d.size : Int) := by omega
        have hb2 : (0 : Int) ≤ (k : Int) + 1 := by omega
        have hb3 : ((k : Int) + 1).toNat = k + 1 := by omega
        have hb4 : k + 1 ≤ d.size := by omega
        have hsl : ∀ W, (Instr.slice 9 (.string d) none (some (.int .i64 ((k : Int) + 1))) none).run Tryz.prog W = .ok (.string (d.extract 0 (k + 1))) W := fun W => by
          have := run_slice_string_to_if (P := Tryz.prog) W 9 d .i64 ((k : Int) + 1) Tryz.underlying9
          rw [if_pos ⟨hb2, hb1⟩, hb3] at this
          exact this
        have hwr : IntKind.i64.wrap ((k : Int) + 1) = (k : Int) + 1 := by rw [IntKind.wrap_i64]; omega
        have hd0 : Below w.heap.size w w.drew := (Below.refl _ _).drew
        go_region_held3 (fun w' => Below w.heap.size w w') (go_keep) ((go_at_call 51; refine (rnumber_keep m hm8 A HA.out w _ (by assumption)).mono ?_; rintro e w3 ⟨rfl, hk3⟩))
        clear hsl hwr hb3
        go_wp2_with fail
        go_ret3
        exact takeN_err HN.out (by decide) hk3
theorem rtake_number_ok {s : ByteArray} {a n u : Nat} (h : tN (s.data.toList.drop a) = (n, u, 0)) (ha : a ≤ s.size) (hs : s.size ≤ 100000) (w : World) : Calls Tryz.prog 58 #[.string s, .int .i64 (a : Int)] w fun e w' => e = .returned (.tuple #[.int .u64 (n : Int), .int .i64 ((a + u : Nat) : Int), .int .i64 0]) ∧ Below w.heap.size w w' := by
  refine (rtake_number_any s a ha hs w).mono ?_
  rintro e w' ⟨rfl, hb⟩
  exact ⟨by rw [h]; rfl, hb⟩
theorem rtake_number_er {s : ByteArray} {a : Nat} {er : Int} (h0 : er ≠ 0) (h : tN (s.data.toList.drop a) = (0, 0, er)) (ha : a ≤ s.size) (hs : s.size ≤ 100000) (w : World) : Calls Tryz.prog 58 #[.string s, .int .i64 (a : Int)] w fun e w' => e = .returned (.tuple #[.int .u64 0, .int .i64 0, .int .i64 er]) ∧ Below w.heap.size w w' := by
  refine (rtake_number_any s a ha hs w).mono ?_
  rintro e w' ⟨rfl, hb⟩
  exact ⟨by rw [h]; simp only [if_neg h0]; rfl, hb⟩
end Go.Proofs.YtlhpgkaffbgkgaaGreatDoor
