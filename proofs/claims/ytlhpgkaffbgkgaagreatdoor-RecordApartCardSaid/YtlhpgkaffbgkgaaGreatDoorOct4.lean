/- Lists as bytes: TakeList: a walk. -/
import Derived.Test.YtlhpgkaffbgkgaaGreatDoorOct3
namespace Go.Proofs.YtlhpgkaffbgkgaaGreatDoor
open Go.RowKit Go.Oct
theorem tT_cases (l : List UInt8) : (∃ t u, tT l = (t, u, 0) ∧ 1 ≤ u ∧ u ≤ l.length) ∨ (∃ er : Int, er ≠ 0 ∧ tT l = ([], 0, er)) := by
  rcases tN_cases l with ⟨n, u, hN, hn, hu, hu2⟩ | ⟨er, h0, hN⟩
  · by_cases h1 : l.length - u < n
    · exact .inr ⟨10, by decide, tT_short hN h1⟩
    · exact .inl ⟨_, _, tT_yes hN (by omega), by omega, by omega⟩
  · exact .inr ⟨er, h0, tT_er h0 hN⟩
theorem take_text_ok {s : ByteArray} {a u : Nat} {t : List UInt8} (h : tT (s.data.toList.drop a) = (t, u, 0)) (ha : a ≤ s.size) (hs : s.size ≤ 100000) (w : World) : Calls Tryz.prog 54 #[.string s, .int .i64 (a : Int)] w fun e w' => e = .returned (.tuple #[.string (S t), .int .i64 ((a + u : Nat) : Int), .int .i64 0]) ∧ Below w.heap.size w w' := by
  refine (take_text_any s a ha hs w).mono ?_
  rintro e w' ⟨rfl, hb⟩
  exact ⟨by rw [h]; rfl, hb⟩
theorem take_text_er {s : ByteArray} {a : Nat} {er : Int} (h0 : er ≠ 0) (h : tT (s.data.toList.drop a) = ([], 0, er)) (ha : a ≤ s.size) (hs : s.size ≤ 100000) (w : World) : Calls Tryz.prog 54 #[.string s, .int .i64 (a : Int)] w fun e w' => e = .returned (.tuple #[.string ⟨#[]⟩, .int .i64 0, .int .i64 er]) ∧ Below w.heap.size w w' := by
  refine (take_text_any s a ha hs w).mono ?_
  rintro e w' ⟨rfl, hb⟩
  exact ⟨by rw [h]; simp only [if_neg h0]; rfl, hb⟩
/-- what was taken and what is still to be taken -/
def comb (acc : List (List UInt8)) (c : Nat) (r : List (List UInt8) × Nat × Int) : List (List UInt8) × Nat × Int := if r.2.2 ≠ 0 then ([], 0, r.2.2) else (acc ++ r.1, c + r.2.1, 0)
theorem comb_start (n : Nat) (l : List UInt8) : comb [] 0 (tLs n l) = tLs n l := by
  unfold comb
  by_cases h : (tLs n l).2.2 = 0
  · rw [if_neg (by simpa using h), List.nil_append, Nat.zero_add, ← h]
  · rw [if_pos h]
    cases n with
    | zero => exact absurd rfl h
    | succ n =>
      rw [tLs] at h ⊢
      by_cases h1 : (tT l).2.2 = 0
      · rw [if_neg (by simpa using h1)] at h ⊢
        by_cases h2 : (tLs n (l.drop (tT l).2.1)).2.2 = 0
        · rw [if_neg (by simpa using h2)] at h; exact absurd rfl h
        · rw [if_pos h2]
      · rw [if_pos h1]
theorem comb_step {acc : List (List UInt8)} {c m u : Nat} {l t : List UInt8} (h : tT l = (t, u, 0)) : comb acc c (tLs (m + 1) l) = comb (acc ++ [t]) (c + u) (tLs m (l.drop u)) := by
  rw [tLs, h]
  simp only [ne_eq, not_true_eq_false, if_false]
  unfold comb
  by_cases h2 : (tLs m (l.drop u)).2.2 = 0
  · simp [h2, Nat.add_assoc]
  · simp [h2]
theorem comb_er {acc : List (List UInt8)} {c m : Nat} {l : List UInt8} {er : Int} (h0 : er ≠ 0) (h : tT l = ([], 0, er)) : comb acc c (tLs (m + 1) l) = ([], 0, er) := by
  rw [tLs, h]
  unfold comb
  simp [h0]
theorem comb_end {acc : List (List UInt8)} {c : Nat} {l : List UInt8} : comb acc c (tLs 0 l) = (acc, c, 0) := by
  rw [tLs]; unfold comb; simp
def TakeLPost (s : ByteArray) (a : Nat) (w : World) (e : Ending) (w' : World) : Prop :=
  ∃ v, e = .returned (.tuple #[v, .int .i64 (if (tL (s.data.toList.drop a)).2.2 = 0 then ((a + (tL (s.data.toList.drop a)).2.1 : Nat) : Int) else 0), .int .i64 (tL (s.data.toList.drop a)).2.2]) ∧
    w'.ownsRow w.heap.size 9 1 v (tL (s.data.toList.drop a)).1.length (strs (tL (s.data.toList.drop a)).1) ∧ Below w.heap.size w w'
theorem takeL_ret {s : ByteArray} {a u : Nat} {ls : List (List UInt8)} {w w' : World} {m : Int} {v : Value} (h : tL (s.data.toList.drop a) = (ls, u, 0)) (hm : m = ((a + u : Nat) : Int)) (ho : w'.ownsRow w.heap.size 9 1 v ls.length (strs ls)) (hb : Below w.heap.size w w') : TakeLPost s a w (.returned (.tuple #[v, .int .i64 m, .int .i64 0])) w' :=
  ⟨v, by rw [h, hm]; rfl, by rw [h]; exact ho, hb⟩
theorem takeL_err {s : ByteArray} {a : Nat} {w w' : World} {er : Int} (h : tL (s.data.toList.drop a) = ([], 0, er)) (h0 : er ≠ 0) (hb : Below w.heap.size w w') : TakeLPost s a w (.returned (.tuple #[.slice none 0 0, .int .i64 0, .int .i64 er])) w' :=
  ⟨_, by rw [h]; simp only [if_neg h0]; rfl, by rw [h]; exact World.ownsRow_nil _ _ _ _, hb⟩
theorem tL_er {l : List UInt8} {er : Int} (h0 : er ≠ 0) (h : tN l = (0, 0, er)) : tL l = ([], 0, er) := by unfold tL; rw [h]; exact if_pos h0
theorem tL_comb {l : List UInt8} {n u : Nat} (h : tN l = (n, u, 0)) : tL l = comb [] u (tLs n (l.drop u)) := by
  unfold tL comb
  rw [h]
  simp
theorem info_st : (Tryz.prog.info? 9).map (fun i => (i.zero, i.size, i.bytes)) = some (some (.string ⟨#[]⟩), 1, 16) := by kernel_rfl
def LLoop (s : ByteArray) (a u : Nat) (R : List (List UInt8) × Nat × Int) (w : World) (pv nv ov : Value) (wr : World) : Prop :=
  ∃ (p m : Nat) (acc : List (List UInt8)), a + u ≤ p ∧ p ≤ s.size ∧ acc.length ≤ p ∧ m < 18446744073709551616 ∧ pv = .int .i64 (p : Int) ∧ nv = .int .u64 (m : Int) ∧ R = comb acc (p - a) (tLs m (s.data.toList.drop p)) ∧
    wr.ownsRow w.heap.size 9 1 ov acc.length (strs acc) ∧ Below w.heap.size w wr
set_option maxRecDepth 100000 in
set_option maxHeartbeats 4000000 in
theorem take_list_any (s : ByteArray) (a : Nat) (ha : a ≤ s.size) (hs : s.size ≤ 100000) (w : World) : Calls Tryz.prog 27 #[.string s, .int .i64 (a : Int)] w (TakeLPost s a w) := by
  obtain ⟨i0, hi, hz0, hz1, hz2⟩ := info_parts info_st
  have hll : (s.data.toList.drop a).length = s.size - a := by rw [List.length_drop]; rfl
  rcases tN_cases (s.data.toList.drop a) with ⟨n, u, hN, hn, hu, hu2⟩ | ⟨er, h0, hN⟩
  · rw [hll] at hu2
    obtain ⟨R, hR⟩ : ∃ R, tL (s.data.toList.drop a) = R := ⟨_, rfl⟩
    have HR := Lib.hid hR
    have HC := Lib.hid (show R = comb [] (a + u - a) (tLs n (s.data.toList.drop (a + u))) by rw [← hR, tL_comb hN, List.drop_drop, Nat.add_sub_cancel_left])
    have HN := Lib.hid hN
    clear hN hll hR
    go_enter Tryz.func27, Tryz.ntmps27
    go_wp2_with (go_at_call 53; go_must (refine (take_number_ok HN.out ha hs _).mono ?_); rintro e w1 ⟨rfl, hb⟩)
    go_loopw [1, 7, 9] (fun pv nv ov wr => LLoop s a u R w pv nv ov wr) (fun pv _ _ _ => s.size - (intOf pv).toNat)
    case atStart => exact ⟨a + u, n, [], Nat.le_refl _, by omega, Nat.zero_le _, hn, by first | rfl | go_num, rfl, HC.out, World.ownsRow_nil _ _ _ _, hb⟩
    case round =>
      obtain ⟨p, m, acc, hp, hps, hacc, hm, rfl, rfl, hC, hown, hbw⟩ := hrel
      have HO := Lib.hid hown
      have HCC := Lib.hid hC
      have hzw := hbw.size
      clear hown hC
      by_cases hm0 : 0 < m
      · obtain ⟨m, rfl⟩ : ∃ k, m = k + 1 := ⟨m - 1, by omega⟩
        have q1 : decide ((0 : Int) < ((m + 1 : Nat) : Int)) = true := by simp
        rcases tT_cases (s.data.toList.drop p) with ⟨t, u', hT, hu1', hu2'⟩ | ⟨er, h0, hT⟩
        · have hu3 : u' ≤ s.size - p := by rw [List.length_drop] at hu2'; exact hu2'
          have HT := Lib.hid hT
          have HC2 := Lib.hid (comb_step (acc := acc) (c := p - a) (m := m) hT)
          clear hT hu2'
          go_wp2_with (first
            | (go_at_call 54; go_must (refine (take_text_ok HT.out hps hs _).mono ?_); rintro e w2 ⟨rfl, hb2⟩)
            | (at_builtin; go_must (refine wpList_append_own _ rfl _ _ 53 rfl w.heap.size 9 i0 (.string ⟨#[]⟩) 1 16 Tryz.underlying53 hi hz0 hz1 hz2 rfl (by decide) _ _ _ rfl ((owns_below HO.out hb2).alloc _) ⟨_, 0, none⟩ 1 1 [.string (S t)] rfl rfl (cell_one_new _ _ _) (by intro u hu; simp at hu; subst hu; rfl) (by unfold maxLen; omega) (by omega) (by have := hb2.size; simp; omega) ?_)))
          intro v' w3 hown2 hg2 _
          have hb3 := below_grown ((hbw.trans (hb2.mono hzw)).alloc (by have := hb2.size; omega) _) ((owns_below HO.out hb2).alloc _) hg2 (by have := hb2.size; simp; omega)
          have HO2 := Lib.hid hown2
          clear hg2 hown2
          go_wp2_with fail
          refine ⟨⟨p + u', m, acc ++ [t], by omega, by omega, by simp; omega, by omega, by go_num, rfl, ?_, ?_, hb3⟩, by simp [intOf]; omega⟩
          · rw [HCC.out, HC2.out, List.drop_drop, show p - a + u' = p + u' - a by omega]
          · have h := HO2.out
            rw [List.length_append, show strs (acc ++ [t]) = strs acc ++ [.string (S t)] by simp [strs]]
            exact h
        · have HT := Lib.hid hT
          have HC2 := Lib.hid (comb_er (acc := acc) (c := p - a) (m := m) h0 hT)
          have q2 : (er != 0) = true := by simpa using h0
          clear hT
          go_wp2_with (go_at_call 54; go_must (refine (take_text_er h0 HT.out hps hs _).mono ?_); rintro e w2 ⟨rfl, hb2⟩)
          go_ret3
          exact takeL_err (by rw [HR.out, HCC.out, HC2.out]) h0 (hbw.trans (hb2.mono hzw))
      · obtain rfl : m = 0 := by omega
        go_wp2_with fail
        go_ret3
        exact takeL_ret (by rw [HR.out, HCC.out, comb_end]) (by omega) HO.out hbw
  · have HT := Lib.hid (tL_er h0 hN)
    have HN := Lib.hid hN
    have q1 : (er != 0) = true := by simpa using h0
    clear hN hll
    go_enter Tryz.func27, Tryz.ntmps27
    go_wp2_with (go_at_call 53; go_must (refine (take_number_er h0 HN.out ha hs _).mono ?_); rintro e w1 ⟨rfl, hb⟩)
    go_ret3
    exact takeL_err HT.out h0 hb
end Go.Proofs.YtlhpgkaffbgkgaaGreatDoor
