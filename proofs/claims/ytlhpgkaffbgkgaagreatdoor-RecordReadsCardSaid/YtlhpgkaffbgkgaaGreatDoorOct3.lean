/- Texts as bytes: TakeText: a walk. -/
import Derived.Test.YtlhpgkaffbgkgaaGreatDoorOct2
namespace Go.Proofs.YtlhpgkaffbgkgaaGreatDoor
open Go.RowKit Go.Oct
theorem tN_cases (l : List UInt8) : (∃ n u, tN l = (n, u, 0) ∧ n < 18446744073709551616 ∧ 1 ≤ u ∧ u ≤ l.length) ∨ (∃ er : Int, er ≠ 0 ∧ tN l = (0, 0, er)) := by
  by_cases h : (tN l).2.2 = 0
  · obtain ⟨h1, h2, h3, _⟩ := tN_ok h
    exact .inl ⟨(tN l).1, (tN l).2.1, by rw [← h], h1, h2, h3⟩
  · refine .inr ⟨(tN l).2.2, h, ?_⟩
    cases l with
    | nil => rfl
    | cons x r =>
      simp only [tN] at h ⊢
      split
      · rename_i hx; rw [if_pos hx] at h; exact absurd rfl h
      · rename_i hx
        rw [if_neg hx] at h
        split
        · rfl
        · rename_i h2
          rw [if_neg h2] at h
          split
          · rename_i h3; rw [if_pos h3] at h; exact absurd rfl h
          · rfl
theorem take_number_ok {s : ByteArray} {a n u : Nat} (h : tN (s.data.toList.drop a) = (n, u, 0)) (ha : a ≤ s.size) (hs : s.size ≤ 100000) (w : World) : Calls Tryz.prog 53 #[.string s, .int .i64 (a : Int)] w fun e w' => e = .returned (.tuple #[.int .u64 (n : Int), .int .i64 ((a + u : Nat) : Int), .int .i64 0]) ∧ Below w.heap.size w w' := by
  refine (take_number_any s a ha hs w).mono ?_
  rintro e w' ⟨rfl, hb⟩
  exact ⟨by rw [h]; rfl, hb⟩
theorem take_number_er {s : ByteArray} {a : Nat} {er : Int} (h0 : er ≠ 0) (h : tN (s.data.toList.drop a) = (0, 0, er)) (ha : a ≤ s.size) (hs : s.size ≤ 100000) (w : World) : Calls Tryz.prog 53 #[.string s, .int .i64 (a : Int)] w fun e w' => e = .returned (.tuple #[.int .u64 0, .int .i64 0, .int .i64 er]) ∧ Below w.heap.size w w' := by
  refine (take_number_any s a ha hs w).mono ?_
  rintro e w' ⟨rfl, hb⟩
  exact ⟨by rw [h]; simp only [if_neg h0]; rfl, hb⟩
theorem tT_er {l : List UInt8} {er : Int} (h0 : er ≠ 0) (h : tN l = (0, 0, er)) : tT l = ([], 0, er) := by unfold tT; rw [h]; exact if_pos h0
theorem tT_short {l : List UInt8} {n u : Nat} (h : tN l = (n, u, 0)) (hn : l.length - u < n) : tT l = ([], 0, 10) := by
  unfold tT
  rw [h, if_neg (by simp), if_pos (by rw [List.length_drop]; exact hn)]
theorem tT_yes {l : List UInt8} {n u : Nat} (h : tN l = (n, u, 0)) (hn : n ≤ l.length - u) : tT l = ((l.drop u).take n, u + n, 0) := by
  unfold tT
  rw [h, if_neg (by simp), if_neg (by rw [List.length_drop]; exact Nat.not_lt.2 hn)]
def TakeTPost (s : ByteArray) (a : Nat) (w : World) (e : Ending) (w' : World) : Prop :=
  e = .returned (.tuple #[.string (S (tT (s.data.toList.drop a)).1), .int .i64 (if (tT (s.data.toList.drop a)).2.2 = 0 then ((a + (tT (s.data.toList.drop a)).2.1 : Nat) : Int) else 0), .int .i64 (tT (s.data.toList.drop a)).2.2]) ∧ Below w.heap.size w w'
theorem takeT_ret {s : ByteArray} {a u : Nat} {t : List UInt8} {w w' : World} {m : Int} {v : ByteArray} (h : tT (s.data.toList.drop a) = (t, u, 0)) (hv : v = S t) (hm : m = ((a + u : Nat) : Int)) (hb : Below w.heap.size w w') : TakeTPost s a w (.returned (.tuple #[.string v, .int .i64 m, .int .i64 0])) w' :=
  ⟨by rw [h, hm, hv]; rfl, hb⟩
theorem takeT_err {s : ByteArray} {a : Nat} {w w' : World} {er : Int} (h : tT (s.data.toList.drop a) = ([], 0, er)) (h0 : er ≠ 0) (hb : Below w.heap.size w w') : TakeTPost s a w (.returned (.tuple #[.string ⟨#[]⟩, .int .i64 0, .int .i64 er])) w' :=
  ⟨by rw [h]; simp only [if_neg h0]; rfl, hb⟩
theorem cut_is (s : ByteArray) (a u n : Nat) : s.extract (a + u) (a + u + n) = S (((s.data.toList.drop a).drop u).take n) := by
  have h := S_extract s.data.toList (a + u) (a + u + n)
  rw [show S s.data.toList = s from rfl] at h
  rw [h, List.drop_drop, List.drop_take, Nat.add_sub_cancel_left]
set_option maxRecDepth 100000 in
set_option maxHeartbeats 4000000 in
theorem take_text_any (s : ByteArray) (a : Nat) (ha : a ≤ s.size) (hs : s.size ≤ 100000) (w : World) : Calls Tryz.prog 54 #[.string s, .int .i64 (a : Int)] w (TakeTPost s a w) := by
  have hll : (s.data.toList.drop a).length = s.size - a := by rw [List.length_drop]; rfl
  rcases tN_cases (s.data.toList.drop a) with ⟨n, u, hN, hn, hu, hu2⟩ | ⟨er, h0, hN⟩
  · rw [hll] at hu2
    by_cases h1 : s.size - a - u < n
    · have HT := Lib.hid (tT_short hN (by rw [hll]; exact h1))
      have HN := Lib.hid hN
      have q1 : decide ((s.size : Int) - ((a + u : Nat) : Int) < (n : Int)) = true := by simp; omega
      clear hN hll
      go_enter Tryz.func54, Tryz.ntmps54
      go_wp2_with (go_at_call 53; go_must (refine (take_number_ok HN.out ha hs _).mono ?_); rintro e w1 ⟨rfl, hb⟩)
      go_ret3
      exact takeT_err HT.out (by decide) hb
    · have HT := Lib.hid (tT_yes hN (by rw [hll]; omega))
      have HN := Lib.hid hN
      have q1 : decide ((s.size : Int) - ((a + u : Nat) : Int) < (n : Int)) = false := by simp; omega
      clear hN hll
      go_enter Tryz.func54, Tryz.ntmps54
      go_wp2_with (go_at_call 53; go_must (refine (take_number_ok HN.out ha hs _).mono ?_); rintro e w1 ⟨rfl, hb⟩)
      go_ret3
      exact takeT_ret HT.out (cut_is s a u n) (by omega) hb
  · have HT := Lib.hid (tT_er h0 hN)
    have HN := Lib.hid hN
    have q1 : (er != 0) = true := by simpa using h0
    clear hN hll
    go_enter Tryz.func54, Tryz.ntmps54
    go_wp2_with (go_at_call 53; go_must (refine (take_number_er h0 HN.out ha hs _).mono ?_); rintro e w1 ⟨rfl, hb⟩)
    go_ret3
    exact takeT_err HT.out h0 hb
end Go.Proofs.YtlhpgkaffbgkgaaGreatDoor
