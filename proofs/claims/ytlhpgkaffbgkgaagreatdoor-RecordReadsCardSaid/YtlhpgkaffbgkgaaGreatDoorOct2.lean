/- Numbers as bytes: TakeNumber: walks. -/
import Derived.Test.YtlhpgkaffbgkgaaGreatDoorOct1
import Derived.OneCell
namespace Go.Proofs.YtlhpgkaffbgkgaaGreatDoor
open Go.RowKit Go.Oct
set_option maxRecDepth 100000 in
/-- one byte more -/
theorem take_byte_as (ba bs bh k : Nat) (s : ByteArray) (w : World) (hs : s.size ≤ 4294967296) (hk : k < s.size) (c1 : w.cell? ⟨ba, 0, none⟩ = some (.int .i64 (k : Int))) (c2 : w.cell? ⟨bs, 0, none⟩ = some (.string s)) (f1 : w.frozen? ⟨ba, 0, none⟩ = false) (hne : bs ≠ ba) :
    Calls Tryz.prog 74 #[.pointer (some ⟨ba, 0, none⟩), .pointer (some ⟨bs, 0, none⟩), .pointer (some ⟨bh, 0, none⟩)] w fun e w' => e = .returned (.int .u8 (s[k].toNat : Int)) ∧ w' = w.setCell ⟨ba, 0, none⟩ (.int .i64 ((k : Int) + 1)) := by
  have q1 : ((k : Int) == (s.size : Int)) = false := by rw [beq_eq_false_iff_ne]; omega
  go_enter Tryz.func74, Tryz.ntmps74
  go_wp2_with fail
  go_ret
  exact ⟨rfl, rfl⟩
set_option maxRecDepth 100000 in
/-- no byte is left -/
theorem take_none_as (ba bs bh : Nat) (b : Bool) (s : ByteArray) (w : World) (_hs : s.size ≤ 4294967296) (c1 : w.cell? ⟨ba, 0, none⟩ = some (.int .i64 (s.size : Int))) (c2 : w.cell? ⟨bs, 0, none⟩ = some (.string s)) (c3 : w.cell? ⟨bh, 0, none⟩ = some (.bool b)) (f3 : w.frozen? ⟨bh, 0, none⟩ = false) :
    Calls Tryz.prog 74 #[.pointer (some ⟨ba, 0, none⟩), .pointer (some ⟨bs, 0, none⟩), .pointer (some ⟨bh, 0, none⟩)] w fun e w' => e = .returned (.int .u8 0) ∧ w' = w.setCell ⟨bh, 0, none⟩ (.bool true) := by
  have q1 : ((s.size : Int) == (s.size : Int)) = true := beq_self_eq_true _
  go_enter Tryz.func74, Tryz.ntmps74
  go_wp2_with fail
  go_ret
  exact ⟨rfl, rfl⟩
/-- the three cells that a read shares with its closure: the bytes (B), where it is (B + 1), is it short (B + 2) -/
structure TkW (w : World) (s : ByteArray) (k : Nat) (b : Bool) (wr : World) : Prop where
  h0 : wr.heap[w.heap.size]? = some (.cells #[.string s] 9 (0, 0))
  h1 : wr.heap[w.heap.size + 1]? = some (.cells #[.int .i64 (k : Int)] 3 (0, 0))
  h2 : wr.heap[w.heap.size + 2]? = some (.cells #[.bool b] 4 (0, 0))
  low : Below w.heap.size w wr
theorem TkW.start (w : World) (s : ByteArray) (k : Nat) : TkW w s k false (((w.alloc (.cells #[.string s] 9)).alloc (.cells #[.int .i64 (k : Int)] 3)).alloc (.cells #[.bool false] 4)) := by
  refine ⟨?_, ?_, ?_, (((Below.refl _ _).alloc (Nat.le_refl _) _).alloc (by simp) _).alloc (by simp; omega) _⟩
  · rw [Below.heap_alloc _ _ _ (by simp; omega), Below.heap_alloc _ _ _ (by simp)]
    exact Below_heap_new w _
  · rw [Below.heap_alloc _ _ _ (by simp)]
    have := Below_heap_new (w.alloc (.cells #[.string s] 9)) (.cells #[.int .i64 (k : Int)] 3)
    simpa using this
  · have := Below_heap_new ((w.alloc (.cells #[.string s] 9)).alloc (.cells #[.int .i64 (k : Int)] 3)) (.cells #[.bool false] 4)
    simpa using this
theorem TkW.set1 {w wr : World} {s : ByteArray} {k : Nat} {b : Bool} (h : TkW w s k b wr) (k' : Nat) : TkW w s k' b (wr.setCell ⟨w.heap.size + 1, 0, none⟩ (.int .i64 (k' : Int))) :=
  ⟨by rw [Below.heap_setCell _ _ _ _ (by simp)]; exact h.h0, one_setCell h.h1, by rw [Below.heap_setCell _ _ _ _ (by simp)]; exact h.h2, h.low.setCell (by simp) _⟩
theorem TkW.set2 {w wr : World} {s : ByteArray} {k : Nat} {b : Bool} (h : TkW w s k b wr) (b' : Bool) : TkW w s k b' (wr.setCell ⟨w.heap.size + 2, 0, none⟩ (.bool b')) :=
  ⟨by rw [Below.heap_setCell _ _ _ _ (by simp)]; exact h.h0, by rw [Below.heap_setCell _ _ _ _ (by simp)]; exact h.h1, one_setCell h.h2, h.low.setCell (by simp) _⟩
/-- where a read is behind i bytes, and is it short -/
def TkI (w : World) (s : ByteArray) (a i : Nat) (wr : World) : Prop := TkW w s (min (a + i) s.size) (decide (s.size < a + i)) wr
def byteAt (s : ByteArray) (k : Nat) : UInt8 := s.data.toList.getD k 0
theorem take_as (w : World) (s : ByteArray) (a i : Nat) (wr : World) (hs : s.size ≤ 4294967296) (h : TkI w s a i wr) :
    Calls Tryz.prog 74 #[.pointer (some ⟨w.heap.size + 1, 0, none⟩), .pointer (some ⟨w.heap.size, 0, none⟩), .pointer (some ⟨w.heap.size + 1 + 1, 0, none⟩)] wr fun e w' => e = .returned (.int .u8 ((byteAt s (a + i)).toNat : Int)) ∧ TkI w s a (i + 1) w' := by
  unfold TkI at h ⊢
  by_cases hk : a + i < s.size
  · have e1 : min (a + i) s.size = a + i := by omega
    have e2 : min (a + (i + 1)) s.size = a + i + 1 := by omega
    have e3 : decide (s.size < a + i) = false := by simp; omega
    have e4 : decide (s.size < a + (i + 1)) = false := by simp; omega
    rw [e1, e3] at h
    rw [e2, e4]
    refine (take_byte_as _ _ _ (a + i) s wr hs hk (cell_of_one h.h1) (cell_of_one h.h0) (free_of_one h.h1) (by omega)).mono ?_
    rintro e w' ⟨rfl, rfl⟩
    refine ⟨?_, h.set1 (a + i + 1)⟩
    have : byteAt s (a + i) = s[a + i] := by
      unfold byteAt
      rw [List.getD_eq_getElem?_getD, Array.getElem?_toList, Array.getElem?_eq_getElem hk]
      rfl
    rw [this]
  · have e1 : min (a + i) s.size = s.size := by omega
    have e2 : min (a + (i + 1)) s.size = s.size := by omega
    have e4 : decide (s.size < a + (i + 1)) = true := by simp; omega
    rw [e1] at h
    rw [e2, e4]
    refine (take_none_as _ _ (w.heap.size + 1 + 1) _ s wr hs (cell_of_one h.h1) (cell_of_one h.h0) (cell_of_one h.h2) (free_of_one h.h2)).mono ?_
    rintro e w' ⟨rfl, rfl⟩
    refine ⟨?_, h.set2 true⟩
    have : byteAt s (a + i) = 0 := by
      unfold byteAt
      rw [List.getD_eq_getElem?_getD, Array.getElem?_toList, Array.getElem?_eq_none (by show s.size ≤ _; omega)]
      rfl
    rw [this]; rfl
/-- i bytes as a number, what is not there as 0 -/
def zN (s : ByteArray) (a : Nat) : Nat → Nat
  | 0 => 0
  | i + 1 => zN s a i * 256 + (byteAt s (a + i)).toNat
theorem zN_lt (s : ByteArray) (a : Nat) : ∀ i, zN s a i < 256 ^ i
  | 0 => Nat.zero_lt_one
  | i + 1 => by
    have := zN_lt s a i
    have hb := (byteAt s (a + i)).toNat_lt
    rw [zN, Nat.pow_succ]; omega
theorem zN_be (s : ByteArray) (a : Nat) : ∀ i, a + i ≤ s.size → zN s a i = ofBE ((s.data.toList.drop a).take i)
  | 0, _ => rfl
  | i + 1, h => by
    have hl : i < (s.data.toList.drop a).length := by rw [List.length_drop]; show i < s.size - a; omega
    rw [zN, zN_be s a i (by omega), List.take_succ_eq_append_getElem hl, ofBE_snoc]
    have : byteAt s (a + i) = (s.data.toList.drop a)[i] := by
      unfold byteAt
      rw [List.getElem_drop, List.getD_eq_getElem?_getD, List.getElem?_eq_getElem]
      rfl
    rw [this]
theorem bits_or_byte (n b : Nat) (hn : n < 72057594037927936) (hb : b < 256) : bits BinOp.or IntKind.u64 ((n : Int) * 256) (IntKind.u64.wrap (b : Int)) = ((n * 256 + b : Nat) : Int) := by
  have e1 : IntKind.u64.wrap (b : Int) = (b : Int) := by rw [IntKind.wrap_u64]; omega
  have e2 : (n : Int) * 256 = ((n * 256 : Nat) : Int) := by omega
  have e3 : n * 256 + b = n * 256 ||| b := by
    have := Nat.two_pow_add_eq_or_of_lt (i := 8) (b := b) (by omega) n
    rw [show n * 256 = 2 ^ 8 * n by omega]; exact this
  rw [e1, e2]
  unfold bits
  simp only [BitVec.ofInt_natCast, BitVec.toNat_or, BitVec.toNat_ofNat]
  rw [show IntKind.u64.bits = 64 from rfl, Nat.mod_eq_of_lt (by omega), Nat.mod_eq_of_lt (by omega), ← e3, IntKind.wrap_u64]
  omega
def TakeNPost (s : ByteArray) (a : Nat) (w : World) (e : Ending) (w' : World) : Prop :=
  e = .returned (.tuple #[.int .u64 ((tN (s.data.toList.drop a)).1 : Int), .int .i64 (if (tN (s.data.toList.drop a)).2.2 = 0 then ((a + (tN (s.data.toList.drop a)).2.1 : Nat) : Int) else 0), .int .i64 (tN (s.data.toList.drop a)).2.2]) ∧ Below w.heap.size w w'
theorem takeN_ret {s : ByteArray} {a n u : Nat} {w w' : World} {m : Int} (h : tN (s.data.toList.drop a) = (n, u, 0)) (hm : m = ((a + u : Nat) : Int)) (hb : Below w.heap.size w w') : TakeNPost s a w (.returned (.tuple #[.int .u64 (n : Int), .int .i64 m, .int .i64 0])) w' :=
  ⟨by rw [h, hm]; rfl, hb⟩
theorem takeN_err {s : ByteArray} {a : Nat} {w w' : World} {er : Int} (h : tN (s.data.toList.drop a) = (0, 0, er)) (h0 : er ≠ 0) (hb : Below w.heap.size w w') : TakeNPost s a w (.returned (.tuple #[.int .u64 0, .int .i64 0, .int .i64 er])) w' :=
  ⟨by rw [h]; simp only [if_neg h0]; rfl, hb⟩
def NLoop (s : ByteArray) (a K : Nat) (w : World) (nv iv : Value) (wr : World) : Prop := ∃ i : Nat, i ≤ K ∧ iv = .int .i64 (i : Int) ∧ nv = .int .u64 (zN s (a + 1) i : Int) ∧ TkI w s a (1 + i) wr
theorem drop_byte {s : ByteArray} {a : Nat} (h : a < s.size) : s.data.toList.drop a = byteAt s a :: s.data.toList.drop (a + 1) := by
  have hl : a < s.data.toList.length := h
  rw [List.drop_eq_getElem_cons hl]
  unfold byteAt
  rw [List.getD_eq_getElem?_getD, List.getElem?_eq_getElem hl]; rfl
theorem tN_none {s : ByteArray} {a : Nat} (h : s.size ≤ a) : tN (s.data.toList.drop a) = (0, 0, 10) := by rw [List.drop_of_length_le (by exact h)]; rfl
theorem tN_small {s : ByteArray} {a : Nat} (h : a < s.size) (hx : (byteAt s a).toNat ≤ 247) : tN (s.data.toList.drop a) = ((byteAt s a).toNat, 1, 0) := by rw [drop_byte h, tN, if_pos hx]
theorem tN_short {s : ByteArray} {a : Nat} (h : a < s.size) (hx : 247 < (byteAt s a).toNat) (hl : s.size < a + (1 + ((byteAt s a).toNat - 247))) : tN (s.data.toList.drop a) = (0, 0, 10) := by
  rw [drop_byte h, tN, if_neg (by omega), if_pos (by rw [List.length_drop]; show s.size - (a + 1) < _; omega)]
theorem tN_form {s : ByteArray} {a : Nat} (h : a < s.size) (hx : 247 < (byteAt s a).toNat) (hl : a + (1 + ((byteAt s a).toNat - 247)) ≤ s.size) (hn : zN s (a + 1) ((byteAt s a).toNat - 247) < 248 ∨ bw (zN s (a + 1) ((byteAt s a).toNat - 247)) ≠ (byteAt s a).toNat - 247) : tN (s.data.toList.drop a) = (0, 0, 11) := by
  rw [zN_be _ _ _ (by omega)] at hn
  rw [drop_byte h, tN, if_neg (by omega), if_neg (by rw [List.length_drop]; show ¬ s.size - (a + 1) < _; omega), if_neg (fun h => hn.elim (fun g => by have := h.1; omega) (fun g => g h.2))]
theorem tN_great {s : ByteArray} {a : Nat} (h : a < s.size) (hx : 247 < (byteAt s a).toNat) (hl : a + (1 + ((byteAt s a).toNat - 247)) ≤ s.size) (h1 : 248 ≤ zN s (a + 1) ((byteAt s a).toNat - 247)) (h2 : bw (zN s (a + 1) ((byteAt s a).toNat - 247)) = (byteAt s a).toNat - 247) : tN (s.data.toList.drop a) = (zN s (a + 1) ((byteAt s a).toNat - 247), (byteAt s a).toNat - 247 + 1, 0) := by
  rw [zN_be _ _ _ (by omega)] at h1 h2 ⊢
  rw [drop_byte h, tN, if_neg (by omega), if_neg (by rw [List.length_drop]; show ¬ s.size - (a + 1) < _; omega), if_pos ⟨h1, h2⟩]
theorem TkI.cell {w wr : World} {s : ByteArray} {a i : Nat} (h : TkI w s a i wr) : wr.cell? ⟨w.heap.size + 1 + 1, 0, none⟩ = some (.bool (decide (s.size < a + i))) ∧ wr.cell? ⟨w.heap.size + 1, 0, none⟩ = some (.int .i64 ((min (a + i) s.size : Nat) : Int)) ∧ Below w.heap.size w wr :=
  ⟨cell_of_one (b := w.heap.size + 1 + 1) h.h2, cell_of_one h.h1, h.low⟩
set_option maxRecDepth 100000 in
set_option maxHeartbeats 4000000 in
theorem take_number_any (s : ByteArray) (a : Nat) (ha : a ≤ s.size) (hs : s.size ≤ 100000) (w : World) : Calls Tryz.prog 53 #[.string s, .int .i64 (a : Int)] w (TakeNPost s a w) := by
  have hmf : ∀ (fn : Fn) (first cap : Array Value) (w : World), (Instr.makeFunc fn first cap).run Tryz.prog w = .ok (.func fn first cap) w := fun _ _ _ _ => rfl
  have q1 : decide (s.size < a) = false := by simp; omega
  have hx2 := (byteAt s (a + 0)).toNat_lt
  obtain ⟨x, hx⟩ : ∃ x, (byteAt s (a + 0)).toNat = x := ⟨_, rfl⟩
  rw [hx] at hx2
  have HX := Lib.hid hx
  clear hx
  have HS := Lib.hid (show TkI w s a 0 (((w.alloc (.cells #[.string s] 9)).alloc (.cells #[.int .i64 (a : Int)] 3)).alloc (.cells #[.bool false] 4)) by
    unfold TkI
    rw [show min (a + 0) s.size = a by omega, show decide (s.size < a + 0) = false from q1]
    exact TkW.start w s a)
  by_cases h248 : x ≤ 247
  · have q3 : decide ((248 : Int) ≤ (x : Int)) = false := by simp; omega
    go_enter Tryz.func53, Tryz.ntmps53
    go_wp2_with (go_at_call 74; go_must (refine (take_as w s a 0 _ (by omega) HS.out).mono ?_); rintro e w1 ⟨rfl, ht⟩; rw [HX.out])
    have HT := Lib.hid ht
    clear ht
    go_loopw [10, 32] (fun nv iv wr => nv = .int .u64 (x : Int) ∧ iv = .int .i64 0 ∧ TkI w s a 1 wr) (fun _ _ _ => 0)
    case atStart => exact ⟨rfl, rfl, HT.out⟩
    case round =>
      obtain ⟨rfl, rfl, ht⟩ := hrel
      obtain ⟨c3, c1, hb⟩ := ht.cell
      clear ht
      by_cases hl : a < s.size
      · rw [show decide (s.size < a + 1) = false by simp; omega] at c3
        rw [show min (a + 1) s.size = a + 1 by omega] at c1
        have hxa : (byteAt s a).toNat = x := HX.out
        have HN := Lib.hid (tN_small hl (by omega))
        rw [hxa] at HN
        go_wp2_with fail
        go_region
        go_wp2_with fail
        go_ret3
        exact takeN_ret HN.out (by omega) hb.drew
      · rw [show decide (s.size < a + 1) = true by simp; omega] at c3
        have HN := Lib.hid (tN_none (s := s) (a := a) (by omega))
        go_wp2_with fail
        go_ret3
        exact takeN_err HN.out (by decide) hb
  · have q3 : decide ((248 : Int) ≤ (x : Int)) = true := by simp; omega
    go_enter Tryz.func53, Tryz.ntmps53
    go_wp2_with (go_at_call 74; go_must (refine (take_as w s a 0 _ (by omega) HS.out).mono ?_); rintro e w1 ⟨rfl, ht⟩; rw [HX.out])
    have HT := Lib.hid ht
    clear ht
    go_loopw [10, 32] (fun nv iv wr => NLoop s a (x - 247) w nv iv wr) (fun _ iv _ => 8 - (intOf iv).toNat)
    case atStart => exact ⟨0, Nat.zero_le _, rfl, rfl, HT.out⟩
    case round =>
      obtain ⟨i, hi, rfl, rfl, ht⟩ := hrel
      by_cases hlt : i < x - 247
      · have hz := zN_lt s (a + 1) i
        have hz2 := Nat.pow_le_pow_right (show 0 < 256 by decide) (show i ≤ 7 by omega)
        have hz3 : zN s (a + 1) i < 72057594037927936 := by omega
        have HT := Lib.hid ht
        clear hz hz2 ht
        go_wp2_with (go_at_call 74; go_must (refine (take_as w s a (1 + i) _ (by omega) HT.out).mono ?_); rintro e w2 ⟨rfl, ht2⟩)
        rw [bits_or_byte _ _ hz3 (byteAt s (a + (1 + i))).toNat_lt]
        refine ⟨⟨i + 1, by omega, by go_num, ?_, ?_⟩, by simp [intOf]; omega⟩
        · rw [zN, show a + 1 + i = a + (1 + i) by omega]
        · rw [show 1 + (i + 1) = 1 + i + 1 by omega]; exact ht2
      · obtain rfl : i = x - 247 := by omega
        obtain ⟨c3, c1, hb⟩ := ht.cell
        clear ht
        have hxa : (byteAt s a).toNat = x := HX.out
        have hz := zN_lt s (a + 1) (x - 247)
        have hz2 := Nat.pow_le_pow_right (show 0 < 256 by decide) (show x - 247 ≤ 8 by omega)
        have hz3 : zN s (a + 1) (x - 247) < 18446744073709551616 := by omega
        obtain ⟨N, hN⟩ : ∃ N, zN s (a + 1) (x - 247) = N := ⟨_, rfl⟩
        rw [hN] at hz3
        have HNN := Lib.hid hN
        rw [hN]
        clear hz hz2 hN
        by_cases hl : s.size < a + (1 + (x - 247))
        · rw [show decide (s.size < a + (1 + (x - 247))) = true by simpa using hl] at c3
          have HN : Hid (tN (s.data.toList.drop a) = (0, 0, 10)) := by
            by_cases hla : a < s.size
            · exact Lib.hid (tN_short hla (by omega) (by rw [hxa]; exact hl))
            · exact Lib.hid (tN_none (by omega))
          go_wp2_with fail
          go_ret3
          exact takeN_err HN.out (by decide) hb
        · rw [show decide (s.size < a + (1 + (x - 247))) = false by simpa using hl] at c3
          rw [show min (a + (1 + (x - 247))) s.size = a + (1 + (x - 247)) by omega] at c1
          by_cases h3 : N < 248
          · have HN := Lib.hid (tN_form (s := s) (a := a) (by omega) (by omega) (by rw [hxa]; omega) (.inl (by rw [hxa, HNN.out]; exact h3)))
            go_wp2_with fail
            go_ret3
            exact takeN_err HN.out (by decide) hb
          · by_cases h4 : bw N = x - 247
            · have HN := Lib.hid (tN_great (s := s) (a := a) (by omega) (by omega) (by rw [hxa]; omega) (by rw [hxa, HNN.out]; omega) (by rw [hxa, HNN.out]; exact h4))
              rw [hxa, HNN.out] at HN
              have q5 : (((x - 247 : Nat) : Int) != (x : Int) - 248 + 1) = false := by rw [bne_eq_false_iff_eq]; omega
              go_wp2_with (go_at_call 67; go_must (refine (width_as N hz3 _).mono ?_); rintro e w2 ⟨rfl, rfl⟩; rw [h4])
              all_goals go_region
              all_goals go_wp2_with fail
              all_goals go_ret3
              all_goals exact takeN_ret HN.out (by omega) hb.drew
            · have HN := Lib.hid (tN_form (s := s) (a := a) (by omega) (by omega) (by rw [hxa]; omega) (.inr (by rw [hxa, HNN.out]; exact h4)))
              have q5 : (((bw N : Nat) : Int) != (x : Int) - 248 + 1) = true := by rw [bne_iff_ne]; omega
              go_wp2_with (go_at_call 67; go_must (refine (width_as N hz3 _).mono ?_); rintro e w2 ⟨rfl, rfl⟩)
              go_ret3
              exact takeN_err HN.out (by decide) hb
end Go.Proofs.YtlhpgkaffbgkgaaGreatDoor
