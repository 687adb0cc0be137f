/- Locks: the program's value: a walk. -/
import Derived.Test.YtboajinaiceekaaGreatDoorLockPlain
import Derived.Test.YtboajinaiceekaaGreatDoorSemCom
import Derived.Test.YtboajinaiceekaaGreatDoorShelf
import Derived.Laws.RangeAny
import Derived.Laws.RangeString
import Derived.Laws.BitsAllLaws
namespace Go
open Go.RowKit
def hexL : List UInt8 := [48, 49, 50, 51, 52, 53, 54, 55, 56, 57, 97, 98, 99, 100, 101, 102]
set_option maxRecDepth 100000 in
theorem hexIdx_all : ∀ c : Fin 256, (Lib.indexByte hexL (UInt8.ofNat c.val) = -1 ∧ ∀ d : Fin 16, hexC d.val ≠ UInt8.ofNat c.val) ∨ ∃ d : Fin 16, Lib.indexByte hexL (UInt8.ofNat c.val) = (d.val : Int) ∧ hexC d.val = UInt8.ofNat c.val := by decide
theorem hexIdx (c : UInt8) : (Lib.indexByte hexL c = -1 ∧ ∀ d, d < 16 → hexC d ≠ c) ∨ ∃ d : Nat, d < 16 ∧ Lib.indexByte hexL c = (d : Int) ∧ hexC d = c := by
  have h := hexIdx_all ⟨c.toNat, c.toNat_lt⟩
  simp only [UInt8.ofNat_toNat] at h
  rcases h with ⟨h1, h2⟩ | ⟨d, h1, h2⟩
  · exact .inl ⟨h1, fun d hd => h2 ⟨d, hd⟩⟩
  · exact .inr ⟨d.val, d.isLt, h1, h2⟩
theorem hexK_hex : ∀ (k n : Nat), ∀ c ∈ hexK k n, ∃ d, d < 16 ∧ hexC d = c
  | 0, _, c, h => by cases h
  | k + 1, n, c, h => by
    rw [hexK, List.mem_append] at h
    rcases h with h | h
    · exact hexK_hex k (n / 16) c h
    · simp only [List.mem_singleton] at h
      exact ⟨n % 16, Nat.mod_lt _ (by decide), h.symm⟩
theorem hexK_push {k m d : Nat} (hd : d < 16) : hexK (k + 1) (m * 16 + d) = hexK k m ++ [hexC d] := by
  rw [hexK, show (m * 16 + d) / 16 = m by omega, show (m * 16 + d) % 16 = d by omega]
/-- what eight bytes are as a number's digits -/
def ValIs (l : List UInt8) (n : Nat) (ok : Bool) : Prop := (ok = true ∧ n < 4294967296 ∧ hexK 8 n = l) ∨ (ok = false ∧ n = 0 ∧ ∀ m, hexK 8 m ≠ l)
theorem valIs_no {l : List UInt8} {c : UInt8} (h : c ∈ l) (hc : ∀ d, d < 16 → hexC d ≠ c) : ValIs l 0 false := .inr ⟨rfl, rfl, fun m e => by
  subst e
  obtain ⟨d, hd, h2⟩ := hexK_hex 8 m c h
  exact hc d hd h2⟩
theorem below_iter (w : World) (s : ByteArray) (p : Nat) : Below w.heap.size w (w.iter s p) := (Below.refl _ _).alloc (Nat.le_refl _) _
theorem hex_or {m d : Nat} (hm : m * 16 + d < 4294967296) (hd : d < 16) : bits .or .u32 ((m : Int) * 16) (d : Int) = ((m * 16 + d : Nat) : Int) := by
  rw [show (m : Int) * 16 = ((m * 16 : Nat) : Int) by omega]
  have := u32_or_nat (m * 16) d (by omega) (by omega)
  rw [this]
  have h := Nat.shiftLeft_add_eq_or_of_lt (a := m) (b := d) (i := 4) (by simpa using hd)
  rw [Nat.shiftLeft_eq, show (2 : Nat) ^ 4 = 16 by decide] at h
  rw [← h]
end Go
namespace Go.Proofs.YtboajinaiceekaaGreatDoor
open Go.RowKit
def VlRel (s : ByteArray) (w : World) (v : Value) (wr : World) : Prop :=
  ∃ pos m : Nat, pos ≤ 8 ∧ wr = w.iter s pos ∧ v = .int .u32 (m : Int) ∧ hexK pos m = s.data.toList.take pos ∧ m < 16 ^ pos
set_option maxRecDepth 100000 in
set_option maxHeartbeats 2000000 in
theorem value_any (s : ByteArray) (hs : s.size = 8) (w : World) :
    Calls Tryz.prog 30 #[.string s] w fun e w' => ∃ (n : Nat) (ok : Bool), e = .returned (.tuple #[.int .u32 (n : Int), .bool ok]) ∧ ValIs s.data.toList n ok ∧ Below w.heap.size w w' := by
  have HSz := Lib.hid hs
  clear hs
  go_enter Tryz.func30, Tryz.ntmps30
  go_wp2_with fail
  go_loopw [4] (fun v wr => VlRel s w v wr) (fun _ wr => s.size - wr.iterPos w.heap.size)
  case atStart => exact ⟨0, 0, by omega, rfl, rfl, rfl, by decide⟩
  case round =>
    obtain ⟨pos, m, hp, rfl, rfl, hk, hm⟩ := hrel
    have HK := Lib.hid hk
    clear hk
    by_cases hlt : pos < s.size
    · by_cases ha : s[pos].toNat < 128
      · have hnx : ∀ ty, (Instr.next (.pointer (some ⟨w.heap.size, 0, none⟩)) true ty).run Tryz.prog (w.iter s pos) = _ := fun ty => run_next_ascii w s pos ty hlt ha
        have hmem : s[pos] ∈ s.data.toList := Array.getElem_mem_toList _
        have HT := Lib.hid (take_byte s pos hlt)
        have HI : Hid (∀ W, Calls Tryz.prog 55 #[.string ⟨#[48, 49, 50, 51, 52, 53, 54, 55, 56, 57, 97, 98, 99, 100, 101, 102]⟩, .int .u8 (s[pos].toNat : Int)] W fun e w' => e = .returned (.int .i64 (Lib.indexByte hexL s[pos])) ∧ w' = W) := by
          show ∀ _, _
          intro W
          have h := Tryz.strings_IndexByte ⟨#[48, 49, 50, 51, 52, 53, 54, 55, 56, 57, 97, 98, 99, 100, 101, 102]⟩ (s[pos].toNat : Int) W
          rw [Int.toNat_natCast, show s[pos].toNat.toUInt8 = s[pos] from UInt8.ofNat_toNat] at h
          exact h
        rcases hexIdx s[pos] with ⟨h1, h2⟩ | ⟨d, hd, h1, h2⟩
        · have HN := Lib.hid (valIs_no hmem h2)
          rw [h1] at HI
          clear h1 h2 hmem
          go_wp2_with fail
          refine (HI.out _).mono ?_
          rintro e w1 ⟨rfl, rfl⟩
          go_wp2_with fail
          go_ret2
          exact ⟨0, false, rfl, HN.out, below_iter _ _ _⟩
        · rw [h1] at HI
          have HD := Lib.hid h2
          have hp7 : pos < 8 := by have := HSz.out; omega
          have hmd : m * 16 + d < 4294967296 := by
            have h16 : (16 : Nat) ^ pos ≤ 16 ^ 7 := Nat.pow_le_pow_right (by decide) (by omega)
            rw [show (16 : Nat) ^ 7 = 268435456 by decide] at h16
            omega
          have hor := hex_or hmd hd
          have q1 : decide ((d : Int) < 0) = false := decide_eq_false (by omega)
          have q2 : decide ((127 : Int) < (s[pos].toNat : Int)) = false := decide_eq_false (by omega)
          have q3 : decide (127 < s[pos].toNat) = false := decide_eq_false (by omega)
          have hm16 : m * 16 < 4294967296 := by omega
          clear h1 h2 hmem
          go_wp2_with fail
          refine (HI.out _).mono ?_
          rintro e w1 ⟨rfl, rfl⟩
          go_wp2_with fail
          go_roundw
          case rel =>
            refine ⟨pos + 1, m * 16 + d, by omega, rfl, by go_num, ?_, ?_⟩
            · rw [hexK_push hd, HK.out, HD.out, HT.out]
            · rw [Nat.pow_succ]; omega
          case measure => simp; omega
      · have hh : 128 ≤ s[pos].toNat := by omega
        obtain ⟨z, hz⟩ : ∃ z, (Utf8.decode s pos).1 = z := ⟨_, rfl⟩
        have hz1 := (decode_high s pos hlt hh).1
        have hz2 := decode_le s pos
        rw [hz] at hz1 hz2
        obtain ⟨q, hq⟩ : ∃ q, pos + (Utf8.decode s pos).2 = q := ⟨_, rfl⟩
        have hnx : ∀ ty, (Instr.next (.pointer (some ⟨w.heap.size, 0, none⟩)) true ty).run Tryz.prog (w.iter s pos) = .ok (.tuple #[.bool true, .int .i64 pos, .int .i32 z]) (w.iter s q) := fun ty => by
          rw [← hz, ← hq]; exact run_next_any w s pos ty hlt
        have HN : Hid (ValIs s.data.toList 0 false) := valIs_no (c := s[pos]) (Array.getElem_mem_toList _) (fun d hd e => by
          have h := (hexC_ne hd).2.2.2
          rw [e] at h; omega)
        have q2 : decide ((127 : Int) < (z : Int)) = true := decide_eq_true (by omega)
        clear hz hq ha hh
        have HI := Lib.hid (fun W => Tryz.strings_IndexByte ⟨#[48, 49, 50, 51, 52, 53, 54, 55, 56, 57, 97, 98, 99, 100, 101, 102]⟩ ((z : Int) % 256) W)
        obtain ⟨r, hr⟩ : ∃ r, Lib.indexByte (⟨#[48, 49, 50, 51, 52, 53, 54, 55, 56, 57, 97, 98, 99, 100, 101, 102]⟩ : ByteArray).data.toList ((z : Int) % 256).toNat.toUInt8 = r := ⟨_, rfl⟩
        rw [hr] at HI
        clear hr
        by_cases hr : r < 0
        · have q1 : decide (r < 0) = true := decide_eq_true hr
          clear hr
          go_wp2_with fail
          refine (HI.out _).mono ?_
          rintro e w1 ⟨rfl, rfl⟩
          go_wp2_with fail
          go_ret2
          exact ⟨0, false, rfl, HN.out, below_iter _ _ _⟩
        · have q1 : decide (r < 0) = false := decide_eq_false hr
          clear hr
          go_wp2_with fail
          refine (HI.out _).mono ?_
          rintro e w1 ⟨rfl, rfl⟩
          go_wp2_with fail
          go_ret2
          exact ⟨0, false, rfl, HN.out, below_iter _ _ _⟩
    · have hp8 : pos = 8 := by have := HSz.out; omega
      have hnx : ∀ ty, (Instr.next (.pointer (some ⟨w.heap.size, 0, none⟩)) true ty).run Tryz.prog (w.iter s pos) = _ := fun ty => run_next_end w s pos ty hlt
      have HN : Hid (ValIs s.data.toList m true) := by
        refine .inl ⟨rfl, ?_, ?_⟩
        · rw [hp8] at hm; exact hm
        · have h := HK.out
          rw [hp8] at h
          rw [h]
          exact List.take_of_length_le (by rw [← Lib.size_eq, HSz.out]; exact Nat.le_refl _)
      have q4 : (s.size == 8) = true := by rw [HSz.out]; rfl
      have q5 : ((s.size : Int) == 8) = true := by rw [HSz.out]; rfl
      clear hlt hp8 hm
      go_wp2_with fail
      go_ret2
      exact ⟨m, true, rfl, HN.out, below_iter _ _ _⟩
end Go.Proofs.YtboajinaiceekaaGreatDoor
