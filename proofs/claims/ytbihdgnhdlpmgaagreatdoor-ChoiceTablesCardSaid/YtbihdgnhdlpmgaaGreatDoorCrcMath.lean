/- Sums of bytes, in plain Lean: a byte that is another one is seen. -/
import Derived.Test.YtbihdgnhdlpmgaaGreatDoorBase
namespace Go.Crc
def poly : Nat := 2197175160
/-- one step of the register -/
def bit (r : Nat) : Nat := (r / 2) ^^^ (if r % 2 = 1 then poly else 0)
def iter : Nat → Nat → Nat
  | 0, r => r
  | n + 1, r => bit (iter n r)
/-- a byte goes in -/
def byte (r : Nat) (b : UInt8) : Nat := iter 8 (r ^^^ b.toNat)
def run (r : Nat) (l : List UInt8) : Nat := l.foldl byte r
def sum (l : List UInt8) : Nat := 4294967295 - run 4294967295 l
theorem bit_lt {r : Nat} (h : r < 4294967296) : bit r < 4294967296 := by
  unfold bit
  refine Nat.xor_lt_two_pow (n := 32) ?_ ?_
  · show r / 2 < 4294967296; omega
  · split <;> decide
theorem iter_lt {r : Nat} (h : r < 4294967296) : ∀ n, iter n r < 4294967296
  | 0 => h
  | n + 1 => bit_lt (iter_lt h n)
theorem byte_lt {r : Nat} (h : r < 4294967296) (b : UInt8) : byte r b < 4294967296 := by
  refine iter_lt (Nat.xor_lt_two_pow (n := 32) h ?_) 8
  have := b.toNat_lt
  show b.toNat < 4294967296
  omega
theorem run_lt : ∀ (l : List UInt8) {r : Nat}, r < 4294967296 → run r l < 4294967296
  | [], _, h => h
  | b :: l, _, h => run_lt l (byte_lt h b)
theorem sum_lt (l : List UInt8) : sum l < 4294967296 := by unfold sum; omega
theorem top_bit {r : Nat} (h : r < 4294967296) : (bit r).testBit 31 = decide (r % 2 = 1) := by
  unfold bit
  rw [Nat.testBit_xor]
  have h1 : (r / 2).testBit 31 = false := Nat.testBit_lt_two_pow (by show r / 2 < 2147483648; omega)
  rw [h1]
  by_cases h2 : r % 2 = 1
  · rw [if_pos h2, decide_eq_true h2]; decide
  · rw [if_neg h2, decide_eq_false h2]; decide
theorem xor_cancel {a b c : Nat} (h : a ^^^ c = b ^^^ c) : a = b := by
  have := congrArg (· ^^^ c) h
  simpa [Nat.xor_assoc] using this
theorem bit_inj {r s : Nat} (hr : r < 4294967296) (hs : s < 4294967296) (h : bit r = bit s) : r = s := by
  have h1 := top_bit hr
  rw [h, top_bit hs, decide_eq_decide] at h1
  unfold bit at h
  by_cases h2 : r % 2 = 1
  · rw [if_pos h2, if_pos (h1.2 h2)] at h
    have := xor_cancel h
    have := h1.2 h2
    omega
  · rw [if_neg h2, if_neg (fun e => h2 (h1.1 e))] at h
    have := xor_cancel h
    have := mt h1.1 h2
    omega
theorem iter_inj {r s : Nat} (hr : r < 4294967296) (hs : s < 4294967296) : ∀ n, iter n r = iter n s → r = s
  | 0, h => h
  | n + 1, h => iter_inj hr hs n (bit_inj (iter_lt hr n) (iter_lt hs n) h)
theorem xor_byte_lt {r : Nat} (h : r < 4294967296) (b : UInt8) : r ^^^ b.toNat < 4294967296 := by
  refine Nat.xor_lt_two_pow (n := 32) h ?_
  have := b.toNat_lt
  show b.toNat < 4294967296
  omega
theorem byte_inj_state {r s : Nat} (hr : r < 4294967296) (hs : s < 4294967296) {b : UInt8} (h : byte r b = byte s b) : r = s :=
  xor_cancel (iter_inj (xor_byte_lt hr b) (xor_byte_lt hs b) 8 h)
theorem byte_inj {r : Nat} (hr : r < 4294967296) {b c : UInt8} (h : byte r b = byte r c) : b = c := by
  have h1 := iter_inj (xor_byte_lt hr b) (xor_byte_lt hr c) 8 h
  rw [Nat.xor_comm r, Nat.xor_comm r] at h1
  exact UInt8.toNat_inj.1 (xor_cancel h1)
theorem run_inj : ∀ (l : List UInt8) {r s : Nat}, r < 4294967296 → s < 4294967296 → run r l = run s l → r = s
  | [], _, _, _, _, h => h
  | b :: l, _, _, hr, hs, h => byte_inj_state hr hs (run_inj l (byte_lt hr b) (byte_lt hs b) h)
/-- bytes that are unlike at one place have unlike sums -/
theorem sum_one {a z : List UInt8} {x y : UInt8} (h : sum (a ++ x :: z) = sum (a ++ y :: z)) : x = y := by
  have hl : ∀ l, run 4294967295 l < 4294967296 := fun l => run_lt l (by decide)
  have h1 := hl (a ++ x :: z)
  have h2 := hl (a ++ y :: z)
  unfold sum at h
  have h3 : run 4294967295 (a ++ x :: z) = run 4294967295 (a ++ y :: z) := by omega
  unfold run at h3
  rw [List.foldl_append, List.foldl_append, List.foldl_cons, List.foldl_cons] at h3
  have h4 := run_inj z (byte_lt (hl a) x) (byte_lt (hl a) y) h3
  exact byte_inj (hl a) h4
/-- the reference's step -/
def inBit (r b : Nat) : Nat := (r / 2) ^^^ (if r % 2 ≠ b % 2 then poly else 0)
def inIter (r b : Nat) : Nat → Nat
  | 0 => r
  | i + 1 => inBit (inIter r b i) (b / 2 ^ i)
theorem xor_half (a b : Nat) : (a ^^^ b) / 2 = a / 2 ^^^ b / 2 := by
  have := Nat.shiftRight_xor_distrib (a := a) (b := b) (i := 1)
  simpa [Nat.shiftRight_eq_div_pow] using this
theorem xor_odd (a b : Nat) : (a ^^^ b) % 2 = 1 ↔ a % 2 ≠ b % 2 := by
  have h := Nat.testBit_xor (x := a) (y := b) (i := 0)
  simp only [Nat.testBit_zero] at h
  have h3 := Nat.mod_two_eq_zero_or_one a
  have h4 := Nat.mod_two_eq_zero_or_one b
  constructor
  · intro h1
    rw [decide_eq_true h1] at h
    rcases h3 with h3 | h3 <;> rcases h4 with h4 | h4 <;> simp [h3, h4] at h ⊢
  · intro h1
    rcases h3 with h3 | h3 <;> rcases h4 with h4 | h4 <;> simp [h3, h4] at h h1 ⊢ <;> omega
theorem in_iter (r b : Nat) : ∀ i, iter i (r ^^^ b) = inIter r b i ^^^ b / 2 ^ i
  | 0 => by simp [iter, inIter]
  | i + 1 => by
    rw [iter, in_iter r b i, inIter]
    unfold bit inBit
    rw [xor_half, Nat.div_div_eq_div_mul, ← Nat.pow_succ]
    by_cases h : (inIter r b i) % 2 ≠ (b / 2 ^ i) % 2
    · rw [if_pos ((xor_odd _ _).2 h), if_pos h, Nat.xor_assoc, Nat.xor_comm (b / 2 ^ (i + 1)), ← Nat.xor_assoc]
    · rw [if_neg (mt (xor_odd _ _).1 h), if_neg h, Nat.xor_zero, Nat.xor_zero]
theorem in_byte (r : Nat) (b : UInt8) : inIter r b.toNat 8 = byte r b := by
  have h := in_iter r b.toNat 8
  have hb := b.toNat_lt
  rw [show b.toNat / 2 ^ 8 = 0 by omega, Nat.xor_zero] at h
  exact h.symm
theorem inIter_lt {r b : Nat} (h : r < 4294967296) : ∀ i, inIter r b i < 4294967296
  | 0 => h
  | i + 1 => by
    have := inIter_lt (b := b) h i
    rw [inIter]
    unfold inBit
    refine Nat.xor_lt_two_pow (n := 32) ?_ ?_
    · show _ / 2 < 4294967296; omega
    · split <;> decide
end Go.Crc
