/- Numbers, texts and lists as bytes, in plain Lean. -/
import Derived.Test.YtlhpgkaffbgkgaaGreatDoorBase
import Derived.Lib.BitFns
namespace Go.Oct
/-- k bytes of a number, the greatest first -/
def beL : Nat → Nat → List UInt8
  | 0, _ => []
  | k + 1, n => beL k (n / 256) ++ [UInt8.ofNat (n % 256)]
def ofBE (l : List UInt8) : Nat := l.foldl (fun n b => n * 256 + b.toNat) 0
def bwA : Nat → Nat → Nat
  | 0, _ => 0
  | f + 1, n => if n = 0 then 0 else 1 + bwA f (n / 256)
/-- in how many bytes a number fits -/
def bw (n : Nat) : Nat := bwA 8 n
def numL (n : Nat) : List UInt8 := if n ≤ 247 then [UInt8.ofNat n] else UInt8.ofNat (247 + bw n) :: beL (bw n) n
theorem beL_length : ∀ (k n : Nat), (beL k n).length = k
  | 0, _ => rfl
  | k + 1, n => by rw [beL, List.length_append, beL_length k]; rfl
theorem beL_cons : ∀ (k n : Nat), beL (k + 1) n = UInt8.ofNat (n / 256 ^ k % 256) :: beL k n
  | 0, n => by simp [beL]
  | k + 1, n => by
    rw [beL, beL_cons k, beL, List.cons_append, Nat.div_div_eq_div_mul, Nat.pow_succ, Nat.mul_comm 256]
theorem ofBE_snoc (l : List UInt8) (b : UInt8) : ofBE (l ++ [b]) = ofBE l * 256 + b.toNat := by simp [ofBE]
theorem ofBE_lt : ∀ (k : Nat) (l : List UInt8), l.length = k → ofBE l < 256 ^ k
  | 0, l, h => by rw [List.length_eq_zero_iff.1 h]; decide
  | k + 1, l, h => by
    obtain ⟨l', b, rfl⟩ : ∃ l' b, l = l' ++ [b] := ⟨l.dropLast, l.getLast (by rintro rfl; cases h), (List.dropLast_concat_getLast _).symm⟩
    have := ofBE_lt k l' (by simpa using h)
    have hb := b.toNat_lt
    rw [ofBE_snoc, Nat.pow_succ]; omega
theorem ofNat_toNat (b : UInt8) : UInt8.ofNat (b.toNat) = b := by simp
theorem beL_ofBE : ∀ (k : Nat) (l : List UInt8), l.length = k → beL k (ofBE l) = l
  | 0, l, h => by rw [List.length_eq_zero_iff.1 h]; rfl
  | k + 1, l, h => by
    obtain ⟨l', b, rfl⟩ : ∃ l' b, l = l' ++ [b] := ⟨l.dropLast, l.getLast (by rintro rfl; cases h), (List.dropLast_concat_getLast _).symm⟩
    have hb := b.toNat_lt
    rw [ofBE_snoc, beL, show (ofBE l' * 256 + b.toNat) / 256 = ofBE l' by omega, show (ofBE l' * 256 + b.toNat) % 256 = b.toNat by omega, ofNat_toNat, beL_ofBE k l' (by simpa using h)]
theorem ofBE_beL : ∀ (k n : Nat), n < 256 ^ k → ofBE (beL k n) = n
  | 0, n, h => by have : n = 0 := by simpa using h
                  subst this; rfl
  | k + 1, n, h => by
    rw [beL, ofBE_snoc, ofBE_beL k (n / 256) (by rw [Nat.pow_succ] at h; omega)]
    have : (UInt8.ofNat (n % 256)).toNat = n % 256 := by simp
    omega
theorem bwA_lt : ∀ (f n : Nat), n < 256 ^ f → n < 256 ^ bwA f n
  | 0, n, h => by simpa [bwA] using h
  | f + 1, n, h => by
    unfold bwA
    split
    · rename_i h0; subst h0; decide
    · have := bwA_lt f (n / 256) (by rw [Nat.pow_succ] at h; omega)
      rw [Nat.add_comm, Nat.pow_succ]; omega
theorem bwA_ge : ∀ (f n : Nat), n < 256 ^ f → n ≠ 0 → 1 ≤ bwA f n ∧ 256 ^ (bwA f n - 1) ≤ n
  | 0, n, h, h0 => by have : n = 0 := by simpa using h
                      exact absurd this h0
  | f + 1, n, h, h0 => by
    unfold bwA
    rw [if_neg h0]
    refine ⟨by omega, ?_⟩
    rw [Nat.add_sub_cancel_left]
    by_cases h1 : n / 256 = 0
    · rw [h1]; cases f <;> simp [bwA] <;> omega
    · obtain ⟨i, j⟩ := bwA_ge f (n / 256) (by rw [Nat.pow_succ] at h; omega) h1
      obtain ⟨m, hm⟩ : ∃ m, bwA f (n / 256) = m + 1 := ⟨_, (Nat.sub_add_cancel i).symm⟩
      rw [hm] at j ⊢
      rw [Nat.pow_succ]
      rw [Nat.add_sub_cancel] at j
      omega
theorem bwA_le : ∀ (f n : Nat), bwA f n ≤ f
  | 0, _ => Nat.le_refl _
  | f + 1, n => by
    unfold bwA
    split
    · omega
    · have := bwA_le f (n / 256); omega
def Fits (n : Nat) : Prop := n < 18446744073709551616
theorem bw_le (n : Nat) : bw n ≤ 8 := bwA_le 8 n
theorem bw_lt {n : Nat} (h : n < 18446744073709551616) : n < 256 ^ bw n := bwA_lt 8 n h
theorem bw_ge {n : Nat} (h : n < 18446744073709551616) (h0 : n ≠ 0) : 1 ≤ bw n ∧ 256 ^ (bw n - 1) ≤ n := bwA_ge 8 n h h0
theorem bitLen_small : ∀ n : Fin 256, n.val ≠ 0 → (Lib.bitLen n.val + 7) / 8 = 1 := by decide +kernel
theorem bit_bwA : ∀ (f n : Nat), n < 256 ^ f → n < 18446744073709551616 → (Lib.bitLen n + 7) / 8 = bwA f n
  | 0, n, h, _ => by have : n = 0 := by simpa using h
                     subst this; rfl
  | f + 1, n, h, hx => by
    unfold bwA
    split
    · rename_i h0; subst h0; rfl
    · rename_i h0
      by_cases h1 : n < 256
      · rw [bitLen_small ⟨n, h1⟩ h0, show n / 256 = 0 by omega]
        cases f <;> rfl
      · rw [Lib.bitLen_shift8 n (by omega) hx, ← bit_bwA f (n / 256) (by rw [Nat.pow_succ] at h; omega) (by omega)]
        omega
/-- the program's width -/
theorem bit_bw {n : Nat} (h : n < 18446744073709551616) : (Lib.bitLen n + 7) / 8 = bw n := bit_bwA 8 n h h
theorem bw_uniq {n k : Nat} (h : n < 18446744073709551616) (hk : 1 ≤ k) (h1 : 256 ^ (k - 1) ≤ n) (h2 : n < 256 ^ k) : bw n = k := by
  have hn : n ≠ 0 := by rintro rfl; have := Nat.pow_pos (n := k - 1) (show 0 < 256 by decide); omega
  obtain ⟨a, b⟩ := bw_ge h hn
  have c := bw_lt h
  have d : ¬ bw n < k := fun hl => by
    have := Nat.pow_le_pow_right (show 0 < 256 by decide) (show bw n ≤ k - 1 by omega)
    omega
  have e : ¬ k < bw n := fun hl => by
    have := Nat.pow_le_pow_right (show 0 < 256 by decide) (show k ≤ bw n - 1 by omega)
    omega
  omega
theorem numL_ne (n : Nat) : numL n ≠ [] := by unfold numL; split <;> simp
theorem numL_length (n : Nat) : (numL n).length = if n ≤ 247 then 1 else bw n + 1 := by
  unfold numL
  split
  · rfl
  · simp [beL_length]
theorem numL_len9 (n : Nat) : (numL n).length ≤ 9 := by have := bw_le n; rw [numL_length]; split <;> omega
/-- a number at the head of some bytes: it, how many bytes, the error -/
def tN : List UInt8 → Nat × Nat × Int
  | [] => (0, 0, 10)
  | x :: r => if x.toNat ≤ 247 then (x.toNat, 1, 0) else if r.length < x.toNat - 247 then (0, 0, 10)
    else if 248 ≤ ofBE (r.take (x.toNat - 247)) ∧ bw (ofBE (r.take (x.toNat - 247))) = x.toNat - 247 then (ofBE (r.take (x.toNat - 247)), x.toNat - 247 + 1, 0) else (0, 0, 11)
def tT (l : List UInt8) : List UInt8 × Nat × Int :=
  if (tN l).2.2 ≠ 0 then ([], 0, (tN l).2.2) else if (l.drop (tN l).2.1).length < (tN l).1 then ([], 0, 10) else ((l.drop (tN l).2.1).take (tN l).1, (tN l).2.1 + (tN l).1, 0)
/-- n texts at the head -/
def tLs : Nat → List UInt8 → List (List UInt8) × Nat × Int
  | 0, _ => ([], 0, 0)
  | n + 1, l => if (tT l).2.2 ≠ 0 then ([], 0, (tT l).2.2) else if (tLs n (l.drop (tT l).2.1)).2.2 ≠ 0 then ([], 0, (tLs n (l.drop (tT l).2.1)).2.2)
    else ((tT l).1 :: (tLs n (l.drop (tT l).2.1)).1, (tT l).2.1 + (tLs n (l.drop (tT l).2.1)).2.1, 0)
def tL (l : List UInt8) : List (List UInt8) × Nat × Int :=
  if (tN l).2.2 ≠ 0 then ([], 0, (tN l).2.2) else if (tLs (tN l).1 (l.drop (tN l).2.1)).2.2 ≠ 0 then ([], 0, (tLs (tN l).1 (l.drop (tN l).2.1)).2.2)
  else ((tLs (tN l).1 (l.drop (tN l).2.1)).1, (tN l).2.1 + (tLs (tN l).1 (l.drop (tN l).2.1)).2.1, 0)
def textL (s : List UInt8) : List UInt8 := numL s.length ++ s
def listL (l : List (List UInt8)) : List UInt8 := numL l.length ++ (l.map textL).flatten
/-- a number's bytes are those that are read -/
theorem num_iff {x : UInt8} {r : List UInt8} (hx : 247 < x.toNat) (hr : r.length = x.toNat - 247) : numL (ofBE r) = x :: r ↔ 248 ≤ ofBE r ∧ bw (ofBE r) = x.toNat - 247 := by
  have hx2 := x.toNat_lt
  constructor
  · intro h
    by_cases h1 : ofBE r ≤ 247
    · unfold numL at h
      rw [if_pos h1] at h
      injection h with _ h
      rw [← h] at hr
      simp at hr
      omega
    · unfold numL at h
      rw [if_neg h1] at h
      injection h with h h2
      refine ⟨by omega, ?_⟩
      rw [← hr, ← h2, beL_length]
      rw [h2]
  · rintro ⟨h1, h2⟩
    unfold numL
    rw [if_neg (by omega), h2, ← hr, beL_ofBE _ _ rfl, hr, show 247 + (x.toNat - 247) = x.toNat by omega, ofNat_toNat]
theorem tN_num {n : Nat} (h : n < 18446744073709551616) (r : List UInt8) : tN (numL n ++ r) = (n, (numL n).length, 0) := by
  rw [numL_length]
  unfold numL
  by_cases h1 : n ≤ 247
  · rw [if_pos h1, if_pos h1]
    have : (UInt8.ofNat n).toNat = n := by simp; omega
    simp [tN, this, h1]
  · rw [if_neg h1, if_neg h1]
    have hb := bw_le n
    have hg := (bw_ge h (by omega)).1
    have : (UInt8.ofNat (247 + bw n)).toNat = 247 + bw n := by simp; omega
    have e : (beL (bw n) n ++ r).take (bw n) = beL (bw n) n := by rw [List.take_append_of_le_length (by rw [beL_length]; exact Nat.le_refl _), List.take_of_length_le (by rw [beL_length]; exact Nat.le_refl _)]
    rw [List.cons_append, tN, this, if_neg (by omega), Nat.add_sub_cancel_left, e, ofBE_beL _ _ (bw_lt h), if_neg (by rw [List.length_append, beL_length]; omega), if_pos ⟨by omega, rfl⟩]
theorem tN_ok {l : List UInt8} (h : (tN l).2.2 = 0) : (tN l).1 < 18446744073709551616 ∧ 1 ≤ (tN l).2.1 ∧ (tN l).2.1 ≤ l.length ∧ l.take (tN l).2.1 = numL (tN l).1 := by
  cases l with
  | nil => cases h
  | cons x r =>
    have hx2 := x.toNat_lt
    simp only [tN] at h ⊢
    split
    · rename_i hx
      refine ⟨by simp only; omega, Nat.le_refl _, by simp, ?_⟩
      simp only [List.take_succ_cons, List.take_zero]
      unfold numL
      rw [if_pos hx, ofNat_toNat]
    · rename_i hx
      rw [if_neg hx] at h
      split
      · rename_i h2; rw [if_pos h2] at h; cases h
      · rename_i h2
        rw [if_neg h2] at h
        split
        · rename_i h3
          have hl : (r.take (x.toNat - 247)).length = x.toNat - 247 := by rw [List.length_take]; omega
          have hlt := ofBE_lt _ _ hl
          refine ⟨?_, by simp only; omega, by simp only [List.length_cons]; omega, ?_⟩
          · have := Nat.pow_le_pow_right (show 0 < 256 by decide) (show x.toNat - 247 ≤ 8 by omega)
            simp only
            omega
          · simp only [List.take_succ_cons]
            exact ((num_iff (by omega) hl).2 h3).symm
        · rename_i h3; rw [if_neg h3] at h; cases h
end Go.Oct
