/- The reference's texts and lists as bytes: TakeText, List, TakeList: walks. -/
import Derived.Test.YtlhpgkaffbgkgaaGreatDoorOctRef2
import Derived.Test.YtlhpgkaffbgkgaaGreatDoorOct4
import Derived.Test.YtlhpgkaffbgkgaaGreatDoorOct5
namespace Go.Proofs.YtlhpgkaffbgkgaaGreatDoor
open Go.RowKit Go.Oct
theorem cut_two (s : ByteArray) (a u n : Nat) : (s.extract (a + u) s.size).extract 0 n = S (((s.data.toList.drop a).drop u).take n) := by
  have e := S_extract s.data.toList (a + u) s.size
  rw [S_of] at e
  rw [show List.take s.size s.data.toList = s.data.toList from List.take_of_length_le (by rw [← Lib.size_eq]; exact Nat.le_refl _)] at e
  rw [e, S_extract, List.drop_zero, List.drop_drop]
set_option maxRecDepth 100000 in
set_option maxHeartbeats 4000000 in
theorem rtake_text_any (s : ByteArray) (a : Nat) (ha : a ≤ s.size) (hs : s.size ≤ 100000) (w : World) : Calls Tryz.prog 59 #[.string s, .int .i64 (a : Int)] w (TakeTPost s a w) := by
  have hll : (s.data.toList.drop a).length = s.size - a := by rw [List.length_drop]; rfl
  rcases tN_cases (s.data.toList.drop a) with ⟨n, u, hN, hn, hu, hu2⟩ | ⟨er, h0, hN⟩
  · rw [hll] at hu2
    obtain ⟨d, hd⟩ : ∃ d, s.extract (a + u) s.size = d := ⟨_, rfl⟩
    have hdz : d.size = s.size - (a + u) := by rw [← hd]; simp
    have HDZ := Lib.hid hdz
    have hds : d.size ≤ 100000 := by omega
    have hau : a + u ≤ s.size := by omega
    by_cases h1 : s.size - a - u < n
    · have HT := Lib.hid (tT_short hN (by rw [hll]; exact h1))
      have HN := Lib.hid hN
      have q1 : decide (d.size < n) = true := by rw [hdz]; simp; omega
      clear hN hll hdz
      go_enter Tryz.func59, Tryz.ntmps59
      go_wp2_with fail
      refine (rtake_number_ok HN.out ha hs _).mono ?_
      rintro e w1 ⟨rfl, hb⟩
      go_wp2_with fail
      go_ret3
      exact takeT_err HT.out (by decide) hb
    · have HT := Lib.hid (tT_yes hN (by rw [hll]; omega))
      have HN := Lib.hid hN
      have HX : Hid (d.extract 0 n = S (((s.data.toList.drop a).drop u).take n)) := by show _ = _; rw [← hd]; exact cut_two s a u n
      have q1 : decide (d.size < n) = false := by rw [hdz]; simp; omega
      have hnd : (n : Int) ≤ (d.size : Int) := by rw [hdz]; omega
      clear hN hll hdz
      go_enter Tryz.func59, Tryz.ntmps59
      go_wp2_with fail
      refine (rtake_number_ok HN.out ha hs _).mono ?_
      rintro e w1 ⟨rfl, hb⟩
      go_wp2_with fail
      go_ret3
      exact takeT_ret HT.out HX.out (by omega) hb
  · have HT := Lib.hid (tT_er h0 hN)
    have HN := Lib.hid hN
    have q1 : (er != 0) = true := by simpa using h0
    clear hN hll
    go_enter Tryz.func59, Tryz.ntmps59
    go_wp2_with fail
    refine (rtake_number_er h0 HN.out ha hs _).mono ?_
    rintro e w1 ⟨rfl, hb⟩
    go_wp2_with fail
    go_ret3
    exact takeT_err HT.out h0 hb
theorem rtake_text_ok {s : ByteArray} {a u : Nat} {t : List UInt8} (h : tT (s.data.toList.drop a) = (t, u, 0)) (ha : a ≤ s.size) (hs : s.size ≤ 100000) (w : World) : Calls Tryz.prog 59 #[.string s, .int .i64 (a : Int)] w fun e w' => e = .returned (.tuple #[.string (S t), .int .i64 ((a + u : Nat) : Int), .int .i64 0]) ∧ Below w.heap.size w w' := by
  refine (rtake_text_any s a ha hs w).mono ?_
  rintro e w' ⟨rfl, hb⟩
  exact ⟨by rw [h]; rfl, hb⟩
theorem rtake_text_er {s : ByteArray} {a : Nat} {er : Int} (h0 : er ≠ 0) (h : tT (s.data.toList.drop a) = ([], 0, er)) (ha : a ≤ s.size) (hs : s.size ≤ 100000) (w : World) : Calls Tryz.prog 59 #[.string s, .int .i64 (a : Int)] w fun e w' => e = .returned (.tuple #[.string ⟨#[]⟩, .int .i64 0, .int .i64 er]) ∧ Below w.heap.size w w' := by
  refine (rtake_text_any s a ha hs w).mono ?_
  rintro e w' ⟨rfl, hb⟩
  exact ⟨by rw [h]; simp only [if_neg h0]; rfl, hb⟩
def RLBRel (ls : List (List UInt8)) (w : World) (ov iv : Value) (wr : World) : Prop :=
  ∃ (k : Nat) (o : ByteArray), k ≤ ls.length ∧ iv = .int .i64 (k : Int) ∧ ov = .string o ∧ o = S (listTo ls k) ∧ Below w.heap.size w wr
set_option maxRecDepth 100000 in
set_option maxHeartbeats 4000000 in
theorem rlist_any (b off cap : Nat) (ls : List (List UInt8)) (w : World) (hv : Strs w (.slice (some ⟨b, off, none⟩) ls.length cap) ls) (hN : ls.length ≤ 1000) (hM : ∀ l ∈ ls, l.length ≤ 100000) (h0 : 0 < ls.length) :
    Calls Tryz.prog 26 #[.slice (some ⟨b, off, none⟩) ls.length cap] w fun e w' => e = .returned (.string (S (listL ls))) ∧ Below w.heap.size w w' := by
  obtain ⟨b', o', c', e, hb, hc⟩ := hv.full h0
  injection e with e1 e2 e3
  injection e1 with e1
  injection e1 with e1 e4
  subst e1 e4
  have HC := Lib.hid hc
  have hbw0 := hb
  clear hc hv e2 e3
  have H0 := Lib.hid (show listTo ls 0 = numL ls.length by unfold listTo; simp)
  have HM := Lib.hid hM
  clear hM
  go_enter Tryz.func26, Tryz.ntmps26
  go_wp2_with fail
  refine (rnumber_as ls.length (by omega) _).mono ?_
  rintro e w1 ⟨rfl, hb1⟩
  go_wp2_with fail
  go_loopw [3, 4] (fun ov iv wr => RLBRel ls w ov iv wr) (fun _ iv _ => ls.length - (intOf iv).toNat)
  case atStart => exact ⟨0, _, Nat.zero_le _, rfl, rfl, by rw [H0.out], hb1⟩
  case round =>
    obtain ⟨k, o, hk, rfl, rfl, ho, hbw⟩ := hrel
    have HO := Lib.hid ho
    have hzw := hbw.size
    have hln := listTo_len 100000 HM.out k hk
    have hkm : k * (100000 + 9) ≤ 1000 * (100000 + 9) := Nat.mul_le_mul (by omega) (Nat.le_refl _)
    have hos : o.size ≤ 100009009 := by rw [ho, S_size]; omega
    clear ho hln hkm
    by_cases hlt : k < ls.length
    · have c0 := (hbw.cell (p := ⟨b, off + k, none⟩) hbw0).trans (HC.out k hlt)
      have hlk := HM.out _ (List.getElem_mem hlt)
      have htl := (textL_len ls[k]).2
      have HS := Lib.hid (listTo_succ hlt)
      obtain ⟨t, ht⟩ : ∃ t, ls[k] = t := ⟨_, rfl⟩
      rw [ht] at c0 hlk htl HS
      have hSt : (S t).size = t.length := S_size t
      obtain ⟨x, hx⟩ : ∃ x, S (textL t) = x := ⟨_, rfl⟩
      have hxs : x.size ≤ 100009 := by rw [← hx, S_size]; omega
      have HX := Lib.hid hx
      have HT := fun W => rtext_as (S t) (by omega) W
      unfold RTextPost at HT
      rw [S_data, hx] at HT
      have HT := Lib.hid HT
      have r1 : ∀ W, (Op.stringOp .add o x).run Tryz.prog W = .ok (.string (o ++ x)) W := fun W => run_string_add_sum W _ _ (by omega)
      clear ht hSt hx htl
      go_wp2_with fail
      refine (HT.out _).mono ?_
      rintro e w3 ⟨rfl, hb3⟩
      go_wp2_with fail
      go_roundw
      case rel => exact ⟨k + 1, o ++ x, by omega, by go_num, rfl, by rw [HS.out, HO.out, ← HX.out, S_append], hbw.trans (hb3.mono hzw)⟩
      case measure => simp [intOf]; omega
    · have hke : Hid (k = ls.length) := by show _ = _; omega
      have q2 : decide (k < ls.length) = false := decide_eq_false hlt
      clear hlt
      go_wp2_with fail
      go_ret
      exact ⟨by rw [HO.out, hke.out, listTo_all]; rfl, hbw⟩
def RLLoop (s : ByteArray) (a u n : Nat) (R : List (List UInt8) × Nat × Int) (w : World) (pv ov : Value) (wr : World) : Prop :=
  ∃ (p m cap : Nat) (ad : Option Addr) (acc : List (List UInt8)), a + u ≤ p ∧ p ≤ s.size ∧ acc.length ≤ p ∧ acc.length + m = n ∧ pv = .int .i64 (p : Int) ∧ ov = .slice ad acc.length cap ∧ R = comb acc (p - a) (tLs m (s.data.toList.drop p)) ∧
    wr.ownsRow w.heap.size 9 1 (.slice ad acc.length cap) acc.length (strs acc) ∧ Below w.heap.size w wr
theorem owns_form {w : World} {B : Nat} {e : TypeId} {size : Nat} {v : Value} {n : Nat} {xs : List Value} (h : w.ownsRow B e size v n xs) : ∃ ad cap, v = .slice ad n cap := by
  rcases h.2 with ⟨rfl, rfl⟩ | ⟨g, cap, cur, rfl, _⟩
  · exact ⟨_, _, rfl⟩
  · exact ⟨_, _, rfl⟩
set_option maxRecDepth 100000 in
set_option maxHeartbeats 4000000 in
theorem rtake_list_any (s : ByteArray) (a : Nat) (ha : a ≤ s.size) (hs : s.size ≤ 100000) (w : World) : Calls Tryz.prog 29 #[.string s, .int .i64 (a : Int)] w (TakeLPost s a w) := by
  obtain ⟨i0, hi, hz0, hz1, hz2⟩ := info_parts info_st
  have hll : (s.data.toList.drop a).length = s.size - a := by rw [List.length_drop]; rfl
  rcases tN_cases (s.data.toList.drop a) with ⟨n, u, hN, hn, hu, hu2⟩ | ⟨er, h0, hN⟩
  · rw [hll] at hu2
    obtain ⟨R, hR⟩ : ∃ R, tL (s.data.toList.drop a) = R := ⟨_, rfl⟩
    have HR := Lib.hid hR
    have HC := Lib.hid (show R = comb [] (a + u - a) (tLs n (s.data.toList.drop (a + u))) by rw [← hR, tL_comb hN, List.drop_drop, Nat.add_sub_cancel_left])
    have HN := Lib.hid hN
    clear hN hll hR
    go_enter Tryz.func29, Tryz.ntmps29
    go_wp2_with fail
    refine (rtake_number_ok HN.out ha hs _).mono ?_
    rintro e w1 ⟨rfl, hb⟩
    go_wp2_with fail
    go_loopw [1, 9] (fun pv ov wr => RLLoop s a u n R w pv ov wr) (fun pv _ _ => s.size - (intOf pv).toNat)
    case atStart => exact ⟨a + u, n, 0, none, [], Nat.le_refl _, by omega, Nat.zero_le _, by simp, by first | rfl | go_num, rfl, HC.out, World.ownsRow_nil _ _ _ _, hb⟩
    case round =>
      obtain ⟨p, m, cap, ad, acc, hp, hps, hacc, hm, rfl, rfl, hC, hown, hbw⟩ := hrel
      have HO := Lib.hid hown
      have HCC := Lib.hid hC
      have hzw := hbw.size
      have HM := Lib.hid hm
      have hal : acc.length ≤ 100000 := by omega
      clear hown hC
      by_cases hm0 : 0 < m
      · obtain ⟨m, rfl⟩ : ∃ k, m = k + 1 := ⟨m - 1, by omega⟩
        have q1 : decide (acc.length < n) = true := by simp; omega
        clear hm
        rcases tT_cases (s.data.toList.drop p) with ⟨t, u', hT, hu1', hu2'⟩ | ⟨er, h0, hT⟩
        · have hu3 : u' ≤ s.size - p := by rw [List.length_drop] at hu2'; exact hu2'
          have HT := Lib.hid hT
          have HC2 := Lib.hid (comb_step (acc := acc) (c := p - a) (m := m) hT)
          clear hT hu2'
          go_wp2_with fail
          refine (rtake_text_ok HT.out hps hs _).mono ?_
          rintro e w2 ⟨rfl, hb2⟩
          have hz2' := hb2.size
          go_wp2_with (at_builtin; go_must (refine wpList_append_own _ rfl _ _ 53 rfl w.heap.size 9 i0 (.string ⟨#[]⟩) 1 16 Tryz.underlying53 hi hz0 hz1 hz2 rfl (by decide) _ _ _ rfl ((owns_below HO.out hb2).alloc _) ⟨_, 0, none⟩ 1 1 [.string (S t)] rfl rfl (cell_one_new _ _ _) (by intro u hu; simp at hu; subst hu; rfl) (by unfold maxLen; omega) (by omega) (by simp; omega) ?_))
          intro v' w3 hown2 hg2 _
          have hb3 := below_grown ((hbw.trans (hb2.mono hzw)).alloc (by omega) _) ((owns_below HO.out hb2).alloc _) hg2 (by simp; omega)
          obtain ⟨ad', cap', rfl⟩ := owns_form hown2
          have HO2 := Lib.hid hown2
          clear hg2 hown2
          go_wp2_with fail
          go_roundw
          case rel =>
            refine ⟨p + u', m, cap', ad', acc ++ [t], by omega, by omega, by simp; omega, by have := HM.out; simp; omega, by go_num, by simp, ?_, ?_, hb3⟩
            · rw [HCC.out, HC2.out, List.drop_drop, show p - a + u' = p + u' - a by omega]
            · have h := HO2.out
              rw [List.length_append, show strs (acc ++ [t]) = strs acc ++ [.string (S t)] by simp [strs]]
              exact h
          case measure => simp [intOf]; omega
        · have HT := Lib.hid hT
          have HC2 := Lib.hid (comb_er (acc := acc) (c := p - a) (m := m) h0 hT)
          have q2 : (er != 0) = true := by simpa using h0
          clear hT
          go_wp2_with fail
          refine (rtake_text_er h0 HT.out hps hs _).mono ?_
          rintro e w2 ⟨rfl, hb2⟩
          go_wp2_with fail
          go_ret3
          exact takeL_err (by rw [HR.out, HCC.out, HC2.out]) h0 (hbw.trans (hb2.mono hzw))
      · obtain rfl : m = 0 := by omega
        have q1 : decide (acc.length < n) = false := by simp; omega
        clear hm hm0
        go_wp2_with fail
        go_ret3
        exact takeL_ret (by rw [HR.out, HCC.out, comb_end]) (by omega) HO.out hbw
  · have HT := Lib.hid (tL_er h0 hN)
    have HN := Lib.hid hN
    have q1 : (er != 0) = true := by simpa using h0
    clear hN hll
    go_enter Tryz.func29, Tryz.ntmps29
    go_wp2_with fail
    refine (rtake_number_er h0 HN.out ha hs _).mono ?_
    rintro e w1 ⟨rfl, hb⟩
    go_wp2_with fail
    go_ret3
    exact takeL_err HT.out h0 hb
end Go.Proofs.YtlhpgkaffbgkgaaGreatDoor
