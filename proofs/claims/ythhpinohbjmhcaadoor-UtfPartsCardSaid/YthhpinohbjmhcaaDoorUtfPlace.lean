/- Place of both: walks. -/
import Derived.Test.YthhpinohbjmhcaaDoorUtfDec
import Derived.Test.YthhpinohbjmhcaaDoorUtfPlace0
namespace Go.Proofs.YthhpinohbjmhcaaDoor
open Go.RowKit
def plOk (s : ByteArray) (p : Int) : Bool := decide (0 ≤ p ∧ p ≤ s.size)
def plLine (s : ByteArray) (p : Int) : Int := if plOk s p then (1 + Utf.nlCount s.data.toList p.toNat : Nat) else 0
def plCol (s : ByteArray) (p : Int) : Int := if plOk s p then (1 + Utf.colT s.data.toList p.toNat (Utf.nlFrom s.data.toList p.toNat) : Nat) else 0
def plErr (s : ByteArray) (p : Int) : Int := if plOk s p then 0 else 2
def PlPost (s : ByteArray) (p : Int) (w : World) (e : Ending) (w' : World) : Prop := e = .returned (.tuple #[.int .i64 (plLine s p), .int .i64 (plCol s p), .int .i64 (plErr s p)]) ∧ Below w.heap.size w w'
theorem pl_no (s : ByteArray) (p : Int) (h : p < 0 ∨ (s.size : Int) < p) : plLine s p = 0 ∧ plCol s p = 0 ∧ plErr s p = 2 := by
  have : plOk s p = false := by unfold plOk; simp; omega
  unfold plLine plCol plErr; rw [this]; exact ⟨rfl, rfl, rfl⟩
theorem pl_yes (s : ByteArray) (a : Nat) (h : a ≤ s.size) : plLine s a = (1 + Utf.nlCount s.data.toList a : Nat) ∧ plCol s a = (1 + Utf.colT s.data.toList a (Utf.nlFrom s.data.toList a) : Nat) ∧ plErr s a = 0 := by
  have : plOk s a = true := by unfold plOk; simp; omega
  unfold plLine plCol plErr; rw [this, Int.toNat_natCast]; exact ⟨rfl, rfl, rfl⟩
/-- at the head of the loop over the code points of the last line -/
def ColRel (s : ByteArray) (a : Nat) (w : World) (f c : Value) (wr : World) : Prop :=
  ∃ from_ col : Nat, f = .int .i64 (from_ : Int) ∧ c = .int .i64 (col : Int) ∧ from_ ≤ a + 4 ∧ col ≤ 1 + from_ ∧ col + Utf.colT s.data.toList a from_ = 1 + Utf.colT s.data.toList a (Utf.nlFrom s.data.toList a) ∧ Below w.heap.size w wr
theorem dec_w (s : ByteArray) (f : Nat) (h : f < s.size) : 1 ≤ (Utf.dec (s.data.toList.drop f)).2 ∧ (Utf.dec (s.data.toList.drop f)).2 ≤ 4 := by
  have hne : s.data.toList.drop f ≠ [] := by
    intro e
    have := congrArg List.length e
    rw [List.length_drop, ← Lib.size_eq, List.length_nil] at this; omega
  refine ⟨(Utf.dec_pos _ hne).1, ?_⟩
  by_cases hb : Utf.dec (s.data.toList.drop f) = (65533, 1)
  · rw [hb]; decide
  · rw [(Utf.dec_good _ hne hb).2.1]; exact (Utf.enc_length _).2
set_option maxRecDepth 100000 in
set_option maxHeartbeats 1000000 in
theorem utfPlace_any (s : ByteArray) (p : Int) (w : World) (hs : s.size ≤ 100000) (hT : Lib.Utf8Tabs 0 1 w) :
    Calls Tryd.prog 15 #[.string s, .int .i64 p] w (PlPost s p w) := by
  have hTs := tabs_size hT
  have HT := Lib.hid hT
  clear hT
  by_cases h1 : p < 0
  · have HE := Lib.hid (pl_no s p (.inl h1))
    have q1 : decide (p < 0) = true := by simpa using h1
    go_enter Tryd.func15, Tryd.ntmps15
    go_wp2_with fail
    go_ret3
    exact ⟨by rw [HE.out.1, HE.out.2.1, HE.out.2.2]; rfl, Below.refl _ _⟩
  have q1 : decide (p < 0) = false := by simpa using h1
  by_cases h2 : (s.size : Int) < p
  · have HE := Lib.hid (pl_no s p (.inr h2))
    have q2 : decide ((s.size : Int) < p) = true := by simpa using h2
    go_enter Tryd.func15, Tryd.ntmps15
    go_wp2_with fail
    go_ret3
    exact ⟨by rw [HE.out.1, HE.out.2.1, HE.out.2.2]; rfl, Below.refl _ _⟩
  obtain ⟨a, rfl⟩ := Int.eq_ofNat_of_zero_le (show 0 ≤ p by omega)
  have ha : a ≤ s.size := by omega
  have q2 : decide ((s.size : Int) < (a : Int)) = false := by simp; omega
  have q3 : decide (s.size < a) = false := by simp; omega
  have HE := Lib.hid (pl_yes s a ha)
  obtain ⟨f0, hf0⟩ : ∃ f0, f0 = Utf.nlFrom s.data.toList a := ⟨_, rfl⟩
  have hf0a : f0 ≤ a := by rw [hf0]; exact Utf.nlFrom_le _ _
  have HL := Lib.hid (lastIndex_from s a ha)
  have HF := Lib.hid hf0
  have HN := Lib.hid (count_from s a ha)
  have hn := Utf.nlCount_le s.data.toList a
  obtain ⟨cn, hcn⟩ : ∃ cn, cn = Utf.nlCount s.data.toList a := ⟨_, rfl⟩
  rw [← hcn] at hn
  have HCN := Lib.hid hcn
  have cL : ∀ W, Calls Tryd.prog 23 #[.string (s.extract 0 a), .int .u8 10] W fun e w' => e = .returned (.int .i64 ((f0 : Int) - 1)) ∧ W = w' := by
    intro W
    have := Tryd.strings_LastIndexByte (s.extract 0 a) 10 (by simp; omega) W
    rw [show Lib.lastIndexByte (s.extract 0 a) 10 = (f0 : Int) - 1 by have := HL.out; rw [← hf0] at this; omega] at this
    exact this.mono fun _ _ ⟨h1, h2⟩ => ⟨h1, h2.symm⟩
  have cN : ∀ W, Calls Tryd.prog 24 #[.string (s.extract 0 a), .string ⟨#[10]⟩] W fun e w' => e = .returned (.int .i64 (cn : Int)) ∧ W = w' := by
    intro W
    have := Tryd.strings_Count_one (s.extract 0 a) 10 W
    rw [HN.out, ← hcn] at this
    exact this.mono fun _ _ ⟨h1, h2⟩ => ⟨h1, h2.symm⟩
  have CL := Lib.hid cL
  have CN := Lib.hid cN
  clear cL cN hf0 hcn h1 h2
  go_enter Tryd.func15, Tryd.ntmps15
  go_wp2_with (go_at_call 23; go_must (refine (CL.out _).mono ?_); rintro e w' ⟨rfl, rfl⟩)
  go_loopw [7, 8] (fun f c wr => ColRel s a w f c wr) (fun f _ _ => a - (intOf f).toNat)
  case atStart => exact ⟨f0, 1, by first | rfl | (congr 1; omega), rfl, by omega, by omega, by rw [HF.out], Below.refl _ _⟩
  case round =>
    obtain ⟨f, c, rfl, rfl, hfa, hcf, hcol, hbw⟩ := hrel
    have HC := Lib.hid hcol
    clear hcol
    by_cases hlt : f < a
    · have hlt2 : f < s.size := by omega
      have hw := dec_w s f hlt2
      have HD := Lib.hid (lib_dec s f hlt2)
      have HS := Lib.hid (Utf.colT_step s.data.toList a f (by rw [← Lib.size_eq]; exact ha) hlt)
      obtain ⟨r, n, hrn⟩ : ∃ r n, Utf.dec (s.data.toList.drop f) = (r, n) := ⟨_, _, rfl⟩
      rw [hrn] at hw HD HS
      have hw1 : 1 ≤ n := hw.1
      have hw2 : n ≤ 4 := hw.2
      clear hw hrn
      by_cases hle : f + n ≤ a
      · have q4 : decide ((f : Int) + (n : Int) ≤ (a : Int)) = true := by simp; omega
        go_wp2_with (go_at_call 17; go_must (refine (HD.out _ (tabs_below HT.out hbw hTs.1 hTs.2)).mono ?_); rintro e w1 ⟨rfl, hb1⟩)
        go_roundw
        case rel => exact ⟨f + n, c + 1, by go_num, by go_num, by omega, by omega, by (have h1 := HS.out; have h2 := HC.out; rw [if_pos hle] at h1; omega), hbw.trans (hb1.mono hbw.size)⟩
        case measure => simp [intOf]; omega
      · have q4 : decide ((f : Int) + (n : Int) ≤ (a : Int)) = false := by simp; omega
        go_wp2_with (go_at_call 17; go_must (refine (HD.out _ (tabs_below HT.out hbw hTs.1 hTs.2)).mono ?_); rintro e w1 ⟨rfl, hb1⟩)
        go_roundw
        case rel => exact ⟨f + n, c, by go_num, rfl, by omega, by omega, by (have h1 := HS.out; have h2 := HC.out; rw [if_neg hle] at h1; omega), hbw.trans (hb1.mono hbw.size)⟩
        case measure => simp [intOf]; omega
    · have hT0 := Utf.colT_end s.data.toList a f (by omega)
      have HX := Lib.hid hT0
      clear hT0
      go_wp2_with (go_at_call 24; go_must (refine (CN.out _).mono ?_); rintro e w' ⟨rfl, rfl⟩)
      go_ret3
      refine ⟨?_, hbw⟩
      have h1 := HC.out
      rw [HX.out] at h1
      rw [HE.out.1, HE.out.2.1, HE.out.2.2, ← HCN.out, ← h1]
      simp
theorem byte_at2 (s : ByteArray) (i : Nat) (h : i < s.size) : Utf.b s.data.toList i = s[i].toNat := by
  unfold Utf.b
  rw [List.getD_eq_getElem?_getD, List.getElem?_eq_getElem (by simpa using h)]
  rfl
theorem first_width (s : ByteArray) (f : Nat) (h : f < s.size) (hs : s.size ≤ 100000) (hF : FirstSaid) : ∃ q : Int, ∃ m : Nat, (if m = 0 then 1 else m) = (Utf.dec (s.data.toList.drop f)).2 ∧
    ∀ W, Calls Tryd.prog 18 #[.string (s.extract f s.size)] W fun e w' => e = .returned (.tuple #[.int .i64 q, .int .i64 (m : Int)]) ∧ Below W.heap.size W w' := by
  have hne : s.data.toList.drop f ≠ [] := by
    intro e
    have := congrArg List.length e
    rw [List.length_drop, ← Lib.size_eq, List.length_nil] at this; omega
  refine ⟨fstP (s.extract f s.size), (Utf.first (s.data.toList.drop f)).2, Utf.first_step _ hne, fun W => ?_⟩
  have := hF (s.extract f s.size) W (by simp; omega)
  have e : fstN (s.extract f s.size) = ((Utf.first (s.data.toList.drop f)).2 : Int) := by unfold fstN; rw [drop_extract s f (by omega)]
  rw [e] at this
  exact this
def LineRel (s : ByteArray) (a : Nat) (w : World) (ln fr i : Value) (wr : World) : Prop :=
  ∃ k : Nat, k ≤ a ∧ i = .int .i64 (k : Int) ∧ ln = .int .i64 ((1 : Int) + (Utf.nlCount s.data.toList k : Int)) ∧ fr = .int .i64 (Utf.nlFrom s.data.toList k : Int) ∧ Below w.heap.size w wr
set_option maxRecDepth 100000 in
set_option maxHeartbeats 1000000 in
theorem refPlace_any (s : ByteArray) (p : Int) (w : World) (hs : s.size ≤ 100000) (hF : FirstSaid) :
    Calls Tryd.prog 16 #[.string s, .int .i64 p] w (PlPost s p w) := by
  have HFS := Lib.hid hF
  clear hF
  by_cases h1 : p < 0
  · have HE := Lib.hid (pl_no s p (.inl h1))
    have q1 : decide (p < 0) = true := by simpa using h1
    go_enter Tryd.func16, Tryd.ntmps16
    go_wp2_with fail
    go_ret3
    exact ⟨by rw [HE.out.1, HE.out.2.1, HE.out.2.2]; rfl, Below.refl _ _⟩
  have q1 : decide (p < 0) = false := by simpa using h1
  by_cases h2 : (s.size : Int) < p
  · have HE := Lib.hid (pl_no s p (.inr h2))
    have q2 : decide ((s.size : Int) < p) = true := by simpa using h2
    go_enter Tryd.func16, Tryd.ntmps16
    go_wp2_with fail
    go_ret3
    exact ⟨by rw [HE.out.1, HE.out.2.1, HE.out.2.2]; rfl, Below.refl _ _⟩
  obtain ⟨a, rfl⟩ := Int.eq_ofNat_of_zero_le (show 0 ≤ p by omega)
  have ha : a ≤ s.size := by omega
  have q2 : decide ((s.size : Int) < (a : Int)) = false := by simp; omega
  have q3 : decide (s.size < a) = false := by simp; omega
  have HE := Lib.hid (pl_yes s a ha)
  clear h1 h2
  go_enter Tryd.func16, Tryd.ntmps16
  go_wp2_with fail
  go_loopw [7, 8, 9] (fun ln fr i wr => LineRel s a w ln fr i wr) (fun _ _ i _ => a - (intOf i).toNat)
  case atStart => exact ⟨0, by omega, rfl, rfl, rfl, Below.refl _ _⟩
  case round =>
    obtain ⟨k, hk, rfl, rfl, rfl, hbw⟩ := hrel
    have hn1 := Utf.nlCount_le s.data.toList k
    have hn2 := Utf.nlFrom_le s.data.toList k
    by_cases hlt : k < a
    · have hks : k < s.size := by omega
      have hb := byte_at2 s k hks
      obtain ⟨x, hx⟩ : ∃ x, s[k] = x := ⟨_, rfl⟩
      rw [hx] at hb
      have HB := Lib.hid hb
      clear hb
      by_cases hc : x.toNat = 10
      · have q4 : ((x.toNat : Int) == 10) = true := by simp; omega
        have H1 : Hid (Utf.nlCount s.data.toList (k + 1) = Utf.nlCount s.data.toList k + 1) := by
          show _ = _; rw [Utf.nlCount, HB.out, if_pos hc]
        have H2 : Hid (Utf.nlFrom s.data.toList (k + 1) = k + 1) := by
          show _ = _; rw [Utf.nlFrom, HB.out, if_pos hc]
        clear hc
        go_wp2_with fail
        go_roundw
        case rel => exact ⟨k + 1, by omega, by go_num, by (rw [H1.out]; congr 1), by rw [H2.out]; go_num, hbw⟩
        case measure => simp [intOf]; omega
      · have q4 : ((x.toNat : Int) == 10) = false := by simp; omega
        have H1 : Hid (Utf.nlCount s.data.toList (k + 1) = Utf.nlCount s.data.toList k) := by
          show _ = _; rw [Utf.nlCount, HB.out, if_neg hc]; rfl
        have H2 : Hid (Utf.nlFrom s.data.toList (k + 1) = Utf.nlFrom s.data.toList k) := by
          show _ = _; rw [Utf.nlFrom, HB.out, if_neg hc]
        clear hc
        go_wp2_with fail
        go_roundw
        case rel => exact ⟨k + 1, by omega, by go_num, by rw [H1.out], by rw [H2.out], hbw⟩
        case measure => simp [intOf]; omega
    · obtain rfl : k = a := by omega
      obtain ⟨wo, hwo⟩ : ∃ wo : World, wo = wr := ⟨_, rfl⟩
      subst hwo
      obtain ⟨f0, hf0⟩ : ∃ f0, f0 = Utf.nlFrom s.data.toList k := ⟨_, rfl⟩
      obtain ⟨cn, hcn⟩ : ∃ cn, cn = Utf.nlCount s.data.toList k := ⟨_, rfl⟩
      rw [← hf0] at hn2
      rw [← hcn] at hn1
      rw [← hf0, ← hcn]
      have HF := Lib.hid hf0
      have HCN := Lib.hid hcn
      clear hf0 hcn
      go_wp2_with fail
      go_loopw [8, 10] (fun f c wr => ColRel s k w f c wr) (fun f _ _ => k - (intOf f).toNat)
      case atStart => exact ⟨f0, 1, rfl, rfl, by omega, by omega, by rw [HF.out], hbw⟩
      case round =>
        obtain ⟨f, c, rfl, rfl, hfa, hcf, hcol, hbw1⟩ := hrel
        have HC := Lib.hid hcol
        clear hcol
        by_cases hlt2 : f < k
        · have hlt3 : f < s.size := by omega
          have hw := dec_w s f hlt3
          obtain ⟨q, m, hm, hD⟩ := first_width s f hlt3 hs HFS.out
          have HD := Lib.hid hD
          have HS := Lib.hid (Utf.colT_step s.data.toList k f (by rw [← Lib.size_eq]; exact ha) hlt2)
          obtain ⟨n, hn⟩ : ∃ n, (Utf.dec (s.data.toList.drop f)).2 = n := ⟨_, rfl⟩
          rw [hn] at hw HS hm
          have hw1 : 1 ≤ n := hw.1
          have hw2 : n ≤ 4 := hw.2
          clear hw hn hD
          by_cases hm0 : m = 0
          · subst hm0
            rw [if_pos rfl] at hm
            subst hm
            by_cases hle : f + 1 ≤ k
            · have q5 : decide ((f : Int) + 1 ≤ (k : Int)) = true := by simp; omega
              go_wp2_with (go_at_call 18; go_must (refine (HD.out _).mono ?_); rintro e w1 ⟨rfl, hb1⟩)
              go_roundw
              case rel => exact ⟨f + 1, c + 1, by go_num, by go_num, by omega, by omega, by (have h1 := HS.out; have h2 := HC.out; rw [if_pos hle] at h1; omega), hbw1.trans (hb1.mono hbw1.size)⟩
              case measure => simp [intOf]; omega
            · omega
          · rw [if_neg hm0] at hm
            subst hm
            have q6 : ((m : Int) == 0) = false := by simp; omega
            clear hm0
            by_cases hle : f + m ≤ k
            · have q5 : decide ((f : Int) + (m : Int) ≤ (k : Int)) = true := by simp; omega
              go_wp2_with (go_at_call 18; go_must (refine (HD.out _).mono ?_); rintro e w1 ⟨rfl, hb1⟩)
              go_roundw
              case rel => exact ⟨f + m, c + 1, by go_num, by go_num, by omega, by omega, by (have h1 := HS.out; have h2 := HC.out; rw [if_pos hle] at h1; omega), hbw1.trans (hb1.mono hbw1.size)⟩
              case measure => simp [intOf]; omega
            · have q5 : decide ((f : Int) + (m : Int) ≤ (k : Int)) = false := by simp; omega
              go_wp2_with (go_at_call 18; go_must (refine (HD.out _).mono ?_); rintro e w1 ⟨rfl, hb1⟩)
              go_roundw
              case rel => exact ⟨f + m, c, by go_num, rfl, by omega, by omega, by (have h1 := HS.out; have h2 := HC.out; rw [if_neg hle] at h1; omega), hbw1.trans (hb1.mono hbw1.size)⟩
              case measure => simp [intOf]; omega
        · have hT0 := Utf.colT_end s.data.toList k f (by omega)
          have HX := Lib.hid hT0
          clear hT0
          go_wp2_with fail
          go_ret3
          refine ⟨?_, hbw1⟩
          have h1 := HC.out
          rw [HX.out] at h1
          rw [HE.out.1, HE.out.2.1, HE.out.2.2, ← HCN.out, ← h1]
          simp
end Go.Proofs.YthhpinohbjmhcaaDoor
