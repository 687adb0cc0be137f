/- utf.Encode: a walk. -/
import Derived.Test.YthhpinohbjmhcaaDoorUtfEnc
import Derived.Test.YthhpinohbjmhcaaDoorUtfRef4
namespace Go.Proofs.YthhpinohbjmhcaaDoor
open Go.RowKit
theorem info_byte : (Tryd.prog.info? 5).map (fun i => (i.zero, i.size, i.bytes)) = some (some (.int .u8 0), 1, 1) := by kernel_rfl
theorem runeCells_enc (p : Int) (h : pointB p = true) : Lib.runeCells p = bytesV (Utf.enc p.toNat) := by
  have hp : 0 ≤ p ∧ Utf.good p.toNat := by simpa [pointB] using h
  obtain ⟨h0, hg⟩ := hp
  obtain ⟨n, rfl⟩ := Int.eq_ofNat_of_zero_le h0
  unfold Utf.good at hg
  rw [Int.toNat_natCast] at hg ⊢
  unfold Lib.runeCells
  by_cases c1 : n < 128
  · rw [Lib.encodeRuneZ_one (by omega) (by omega)]
    simp only [Utf.enc, if_pos c1, bytesV, List.map_cons, List.map_nil]
    rw [Utf.u8_toNat_lt (by omega)]
  by_cases c2 : n < 2048
  · rw [Lib.encodeRuneZ_two (by omega) (by omega)]
    simp only [Utf.enc, if_neg c1, if_pos c2, bytesV, List.map_cons, List.map_nil]
    rw [Utf.u8_toNat_lt (by omega), Utf.u8_toNat_lt (by omega)]
    rfl
  by_cases c3 : n < 65536
  · rw [Lib.encodeRuneZ_three (by omega)]
    simp only [Utf.enc, if_neg c1, if_neg c2, if_pos c3, bytesV, List.map_cons, List.map_nil]
    rw [Utf.u8_toNat_lt (by omega), Utf.u8_toNat_lt (by omega), Utf.u8_toNat_lt (by omega)]
    rfl
  · rw [Lib.encodeRuneZ_four (by omega) (by omega)]
    simp only [Utf.enc, if_neg c1, if_neg c2, if_neg c3, bytesV, List.map_cons, List.map_nil]
    rw [Utf.u8_toNat_lt (by omega), Utf.u8_toNat_lt (by omega), Utf.u8_toNat_lt (by omega), Utf.u8_toNat_lt (by omega)]
    rfl
theorem valid_t (p : Int) (w : World) (h : pointB p = true) : Calls Tryd.prog 19 #[.int .i32 p] w fun e w' => e = .returned (.bool true) ∧ w = w' := by
  refine (Tryd.utf8_ValidRune p w).mono ?_
  rintro e w' ⟨rfl, rfl⟩
  refine ⟨ret_bool ?_, rfl⟩
  rw [pointB_eq] at h
  unfold Lib.validRune; simp at h ⊢; omega
theorem valid_f (p : Int) (w : World) (h : pointB p = false) : Calls Tryd.prog 19 #[.int .i32 p] w fun e w' => e = .returned (.bool false) ∧ w = w' := by
  refine (Tryd.utf8_ValidRune p w).mono ?_
  rintro e w' ⟨rfl, rfl⟩
  refine ⟨ret_bool ?_, rfl⟩
  rw [pointB_eq] at h
  unfold Lib.validRune; simp at h ⊢; omega
/-- the library's AppendRune, with what is below untouched -/
theorem append_rune (w0 : World) (B : Nat) (v : Value) (l : List UInt8) (p : Int) (w : World) (h : pointB p = true) (hown : w.ownsRow B 5 1 v l.length (bytesV l)) (hl : l.length ≤ 100000) (hb : Below B w0 w) (hB : B ≤ w.heap.size) :
    Calls Tryd.prog 20 #[v, .int .i32 p] w fun e w' => ∃ v', e = .returned v' ∧ w'.ownsRow B 5 1 v' (l ++ Utf.enc p.toNat).length (bytesV (l ++ Utf.enc p.toNat)) ∧ Below B w0 w' := by
  have hp := h
  rw [pointB_eq] at hp
  simp at hp
  refine (Tryd.utf8_AppendRune_plain B v l.length (bytesV l) p (by omega) (by omega) w hown (by omega) hB).mono ?_
  rintro e w' ⟨v', rfl, h1, o, h2⟩
  rw [runeCells_enc p h, ← bytesV_append, bytesV_length, ← List.length_append] at h1
  refine ⟨v', rfl, h1, ?_⟩
  exact below_grown (hb.alloc hB o) (hown.alloc o) h2 (by simp; omega)
def EncRel2 (xs : List Int) (w : World) (v i : Value) (wr : World) : Prop :=
  ∃ (k : Nat) (l : List UInt8), k ≤ xs.length ∧ i = .int .i64 (k : Int) ∧ wr.ownsRow w.heap.size 5 1 v l.length (bytesV l) ∧ l = encL (xs.take k) ∧ encOk (xs.take k) = true ∧ Below w.heap.size w wr
set_option maxRecDepth 100000 in
set_option maxHeartbeats 1000000 in
theorem utfEncode_any (v : Value) (xs : List Int) (w : World) (hx : Ints w v xs) (hs : xs.length ≤ 20000) :
    Calls Tryd.prog 13 #[v] w (EncPost xs w) := by
  obtain ⟨_, hx⟩ := hx.cases
  rcases hx with ⟨a, cap, rfl, rfl⟩ | ⟨b, off, cap, rfl, hn, hb, hc⟩
  · have hk : ∀ W, (convert 48 9 (.slice none 0 0)).run Tryd.prog W = .ok (.string ⟨#[]⟩) W := fun W => conv_own (P := Tryd.prog) Tryd.underlying48 Tryd.underlying5 Tryd.underlying9 (World.ownsRow_nil W 0 0 1)
    go_enter Tryd.func13, Tryd.ntmps13
    go_wp2_with fail
    go_loop [4, 9] (fun v i => v = .slice none 0 0 ∧ i = .int .i64 0) (fun _ _ => 0)
    case atStart => exact ⟨rfl, rfl⟩
    case round =>
      obtain ⟨rfl, rfl⟩ := hrel
      go_wp2_with fail
      go_ret2
      exact ⟨rfl, Below.refl _ _⟩
  · have HC := Lib.hid hc
    clear hc
    go_enter Tryd.func13, Tryd.ntmps13
    go_wp2_with fail
    go_loopw [4, 9] (fun v i wr => EncRel2 xs w v i wr) (fun _ i _ => xs.length - (intOf i).toNat)
    case atStart => exact ⟨0, [], Nat.zero_le _, rfl, World.ownsRow_nil _ _ _ _, rfl, rfl, Below.refl _ _⟩
    case round =>
      obtain ⟨k, l, hk, rfl, hown, hl, hok, hbw⟩ := hrel
      have hsz : l.length ≤ 4 * k := by rw [hl]; exact encL_le xs k
      have HL := Lib.hid hl
      have HK := Lib.hid hok
      clear hl hok
      by_cases hlt : k < xs.length
      · have hlti : (k : Int) < (xs.length : Int) := by omega
        have c1 : wr.cell? ⟨b, off + k, none⟩ = some (.int .i64 xs[k]) := by
          rw [hbw.cell (p := ⟨b, off + k, none⟩) hb]; exact HC.out k hlt
        cases hp : pointB xs[k]
        · have HE := Lib.hid (enc_no xs k hlt hp)
          have HP := Lib.hid hp
          clear hp
          by_cases h1 : xs[k] < 0
          · have q1 : decide (xs[k] < 0) = true := by simpa using h1
            go_wp2_with fail
            go_ret2
            exact ⟨by rw [HE.out.1, HE.out.2]; rfl, hbw⟩
          have q1 : decide (xs[k] < 0) = false := by simpa using h1
          by_cases h2 : 1114111 < xs[k]
          · have q2 : decide (1114111 < xs[k]) = true := by simpa using h2
            go_wp2_with fail
            go_ret2
            exact ⟨by rw [HE.out.1, HE.out.2]; rfl, hbw⟩
          · have q2 : decide (1114111 < xs[k]) = false := by simpa using h2
            go_wp2_with (go_at_call 19; go_must (refine (valid_f _ _ HP.out).mono ?_); rintro e w1 ⟨rfl, rfl⟩)
            go_ret2
            exact ⟨by rw [HE.out.1, HE.out.2]; rfl, hbw⟩
        · have hp' := hp
          rw [pointB_eq] at hp'
          simp at hp'
          have h1 : 0 ≤ xs[k] := hp'.1
          have h2 : xs[k] ≤ 1114111 := hp'.2.1
          have q1 : decide (xs[k] < 0) = false := by simp; omega
          have q2 : decide (1114111 < xs[k]) = false := by simp; omega
          have HP := Lib.hid hp
          clear hp hp'
          go_wp2_with (first
            | (go_at_call 19; go_must (refine (valid_t _ _ HP.out).mono ?_); rintro e w1 ⟨rfl, rfl⟩)
            | (go_at_call 20; go_must (refine (append_rune w w.heap.size _ l _ _ HP.out hown (by omega) hbw hbw.size).mono ?_); rintro e w1 ⟨v', rfl, hown1, hb1⟩))
          go_roundw
          case rel =>
            refine ⟨k + 1, l ++ Utf.enc (xs[k]).toNat, by omega, by go_num, hown1, ?_, ?_, hb1⟩
            · rw [encL_snoc xs k hlt, HL.out]
            · rw [encOk_snoc xs k hlt, HK.out, HP.out]; rfl
          case measure => simp [intOf]; omega
      · obtain rfl : k = xs.length := by omega
        have HE := Lib.hid (enc_yes xs xs.length (Nat.le_refl _) HK.out)
        have hk2 := conv_own (P := Tryd.prog) Tryd.underlying48 Tryd.underlying5 Tryd.underlying9 hown
        go_wp2_with fail
        go_ret2
        exact ⟨by rw [HE.out.1, HE.out.2, HL.out]; rfl, hbw⟩
end Go.Proofs.YthhpinohbjmhcaaDoor
