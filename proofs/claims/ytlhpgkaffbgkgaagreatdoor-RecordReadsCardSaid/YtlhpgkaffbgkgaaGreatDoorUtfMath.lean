/- UTF-8 in plain Lean: what the decoder and the reference read; no program in sight. -/
import GoSem.Core.Utf8
namespace Utf

/-- the model's decoder at place 0 of a text of n bytes (what lies beyond the end: 0) -/
def decN (n b0 b1 b2 b3 : Nat) : Nat × Nat :=
  if b0 < 128 then (b0, 1)
  else if b0 / 32 = 6 ∧ (1 < n ∧ b1 / 64 = 2) then
    (if b0 % 32 * 64 + b1 % 64 ≥ 128 then (b0 % 32 * 64 + b1 % 64, 2) else (65533, 1))
  else if b0 / 16 = 14 ∧ (1 < n ∧ b1 / 64 = 2) ∧ (2 < n ∧ b2 / 64 = 2) then
    (if b0 % 16 * 4096 + b1 % 64 * 64 + b2 % 64 ≥ 2048 ∧ (b0 % 16 * 4096 + b1 % 64 * 64 + b2 % 64 < 55296 ∨ 57344 ≤ b0 % 16 * 4096 + b1 % 64 * 64 + b2 % 64)
     then (b0 % 16 * 4096 + b1 % 64 * 64 + b2 % 64, 3) else (65533, 1))
  else if b0 / 8 = 30 ∧ (1 < n ∧ b1 / 64 = 2) ∧ (2 < n ∧ b2 / 64 = 2) ∧ (3 < n ∧ b3 / 64 = 2) then
    (if b0 % 8 * 262144 + b1 % 64 * 4096 + b2 % 64 * 64 + b3 % 64 ≥ 65536 ∧ b0 % 8 * 262144 + b1 % 64 * 4096 + b2 % 64 * 64 + b3 % 64 ≤ 1114111
     then (b0 % 8 * 262144 + b1 % 64 * 4096 + b2 % 64 * 64 + b3 % 64, 4) else (65533, 1))
  else (65533, 1)

def b (l : List UInt8) (i : Nat) : Nat := (l.getD i 0).toNat
def dec (l : List UInt8) : Nat × Nat := if l = [] then (65533, 0) else decN l.length (b l 0) (b l 1) (b l 2) (b l 3)

def good (p : Nat) : Prop := p < 55296 ∨ (57344 ≤ p ∧ p ≤ 1114111)
instance (p : Nat) : Decidable (good p) := by unfold good; infer_instance

def u8 (n : Nat) : UInt8 := UInt8.ofNat n
theorem u8_toNat (n : Nat) : (u8 n).toNat = n % 256 := by simp [u8]
theorem u8_toNat_lt {n : Nat} (h : n < 256) : (u8 n).toNat = n := by rw [u8_toNat]; omega
theorem u8_eq {x : UInt8} {n : Nat} (h : x.toNat = n) : x = u8 n := by
  apply UInt8.toNat_inj.1; rw [u8_toNat, h]; have := x.toNat_lt; omega

def enc (p : Nat) : List UInt8 :=
  if p < 128 then [u8 p]
  else if p < 2048 then [u8 (192 + p / 64), u8 (128 + p % 64)]
  else if p < 65536 then [u8 (224 + p / 4096), u8 (128 + p / 64 % 64), u8 (128 + p % 64)]
  else [u8 (240 + p / 262144), u8 (128 + p / 4096 % 64), u8 (128 + p / 64 % 64), u8 (128 + p % 64)]

theorem b_nil (i : Nat) : b [] i = 0 := by simp [b]
theorem b_zero (x : UInt8) (t : List UInt8) : b (x :: t) 0 = x.toNat := by simp [b]
theorem b_one (x : UInt8) (t : List UInt8) : b (x :: t) 1 = b t 0 := by simp [b]
theorem b_two (x : UInt8) (t : List UInt8) : b (x :: t) 2 = b t 1 := by simp [b]
theorem b_three (x : UInt8) (t : List UInt8) : b (x :: t) 3 = b t 2 := by simp [b]
theorem b_lt (l : List UInt8) (i : Nat) : b l i < 256 := by unfold b; exact UInt8.toNat_lt _

theorem dec_cons (x : UInt8) (t : List UInt8) : dec (x :: t) = decN (t.length + 1) x.toNat (b t 0) (b t 1) (b t 2) := by
  simp [dec, b_zero, b_one, b_two, b_three]

set_option maxHeartbeats 1000000 in
theorem dec_enc (p : Nat) (t : List UInt8) (h : good p) : dec (enc p ++ t) = (p, (enc p).length) := by
  unfold good at h
  unfold enc
  split
  · simp only [List.cons_append, List.nil_append, dec_cons, List.length_cons, List.length_nil]
    rw [u8_toNat_lt (by omega)]
    simp [decN, *]
  split
  · simp only [List.cons_append, List.nil_append, dec_cons, List.length_cons, List.length_nil, b_zero]
    rw [u8_toNat_lt (by omega), u8_toNat_lt (by omega)]
    unfold decN
    rw [if_neg (by omega), if_pos (by omega), if_pos (by omega)]
    apply Prod.ext <;> simp only; omega
  split
  · simp only [List.cons_append, List.nil_append, dec_cons, List.length_cons, List.length_nil, b_zero, b_one, b_two]
    rw [u8_toNat_lt (by omega), u8_toNat_lt (by omega), u8_toNat_lt (by omega)]
    unfold decN
    rw [if_neg (by omega), if_neg (by omega), if_pos (by omega), if_pos (by omega)]
    apply Prod.ext <;> simp only; omega
  · simp only [List.cons_append, List.nil_append, dec_cons, List.length_cons, List.length_nil, b_zero, b_one, b_two]
    rw [u8_toNat_lt (by omega), u8_toNat_lt (by omega), u8_toNat_lt (by omega), u8_toNat_lt (by omega)]
    unfold decN
    rw [if_neg (by omega), if_neg (by omega), if_neg (by omega), if_pos (by omega), if_pos (by omega)]
    apply Prod.ext <;> simp only; omega

theorem enc_length (p : Nat) : 1 ≤ (enc p).length ∧ (enc p).length ≤ 4 := by
  unfold enc; repeat' split
  all_goals simp

/-- what is decoded well is what is written of it -/
theorem dec_good (l : List UInt8) (hl : l ≠ []) (h : dec l ≠ (65533, 1)) : good (dec l).1 ∧ (dec l).2 = (enc (dec l).1).length ∧ l.take (dec l).2 = enc (dec l).1 := by
  obtain ⟨x0, t, rfl⟩ := List.exists_cons_of_ne_nil hl
  have hx0 := x0.toNat_lt
  rw [dec_cons] at *
  unfold decN at *
  split
  · rename_i h0
    refine ⟨?_, ?_, ?_⟩
    · show good x0.toNat; unfold good; omega
    · show 1 = _; simp [enc, h0]
    · show (x0 :: t).take 1 = _; simp [enc, h0]; exact u8_eq rfl
  rename_i h0
  rw [if_neg h0] at h
  split
  · rename_i h1
    rw [if_pos h1] at h
    split
    · rename_i h2
      match t, h1 with
      | x1 :: t, h1 =>
        have hx1 := x1.toNat_lt
        rw [b_zero] at *
        simp only
        have e : enc (x0.toNat % 32 * 64 + x1.toNat % 64) = [x0, x1] := by
          unfold enc; rw [if_neg (by omega), if_pos (by omega)]
          rw [← u8_eq (x := x0) (by omega), ← u8_eq (x := x1) (by omega)]
        rw [e]
        refine ⟨?_, rfl, rfl⟩
        unfold good; omega
    · rename_i h2; rw [if_neg h2] at h; exact absurd rfl h
  rename_i h1
  rw [if_neg h1] at h
  split
  · rename_i h2
    rw [if_pos h2] at h
    split
    · rename_i h3
      obtain ⟨x1, x2, t, rfl⟩ : ∃ x1 x2 t', t = x1 :: x2 :: t' := by
        rcases t with _ | ⟨x1, _ | ⟨x2, t⟩⟩
        · have := h2.2.1.1; simp at this
        · have := h2.2.2.1; simp at this
        · exact ⟨_, _, _, rfl⟩
      · clear h
        have hx1 := x1.toNat_lt
        have hx2 := x2.toNat_lt
        simp only [b_zero, b_one] at h2 h3 ⊢
        have e : enc (x0.toNat % 16 * 4096 + x1.toNat % 64 * 64 + x2.toNat % 64) = [x0, x1, x2] := by
          unfold enc; rw [if_neg (by omega), if_neg (by omega), if_pos (by omega)]
          rw [← u8_eq (x := x0) (by omega), ← u8_eq (x := x1) (by omega), ← u8_eq (x := x2) (by omega)]
        rw [e]
        refine ⟨?_, rfl, rfl⟩
        unfold good; omega
    · rename_i h3; rw [if_neg h3] at h; exact absurd rfl h
  rename_i h2
  rw [if_neg h2] at h
  split
  · rename_i h3
    rw [if_pos h3] at h
    split
    · rename_i h4
      obtain ⟨x1, x2, x3, t, rfl⟩ : ∃ x1 x2 x3 t', t = x1 :: x2 :: x3 :: t' := by
        rcases t with _ | ⟨x1, _ | ⟨x2, _ | ⟨x3, t⟩⟩⟩
        · have := h3.2.1.1; simp at this
        · have := h3.2.2.1.1; simp at this
        · have := h3.2.2.2.1; simp at this
        · exact ⟨_, _, _, _, rfl⟩
      · clear h
        have hx1 := x1.toNat_lt
        have hx2 := x2.toNat_lt
        have hx3 := x3.toNat_lt
        simp only [b_zero, b_one, b_two] at h3 h4 ⊢
        have e : enc (x0.toNat % 8 * 262144 + x1.toNat % 64 * 4096 + x2.toNat % 64 * 64 + x3.toNat % 64) = [x0, x1, x2, x3] := by
          unfold enc; rw [if_neg (by omega), if_neg (by omega), if_neg (by omega)]
          rw [← u8_eq (x := x0) (by omega), ← u8_eq (x := x1) (by omega), ← u8_eq (x := x2) (by omega), ← u8_eq (x := x3) (by omega)]
        rw [e]
        refine ⟨?_, rfl, rfl⟩
        unfold good; omega
    · rename_i h4; rw [if_neg h4] at h; exact absurd rfl h
  rename_i h3
  rw [if_neg h3] at h
  exact absurd rfl h

theorem dec_pos (l : List UInt8) (hl : l ≠ []) : 1 ≤ (dec l).2 ∧ (dec l).2 ≤ l.length := by
  by_cases h : dec l = (65533, 1)
  · rw [h]; exact ⟨Nat.le_refl _, List.length_pos_iff.2 hl⟩
  · obtain ⟨_, h2, h3⟩ := dec_good l hl h
    have h4 := congrArg List.length h3
    rw [List.length_take, ← h2] at h4
    have := (enc_length (dec l).1).1
    omega

theorem enc_ne (p : Nat) : enc p ≠ [] := by
  have := (enc_length p).1
  intro h; rw [h] at this; simp at this

/-- a good code point is not the decoder's error -/
theorem dec_enc_ne (p : Nat) (t : List UInt8) (h : good p) : dec (enc p ++ t) ≠ (65533, 1) := by
  rw [dec_enc p t h]
  intro e
  have e1 : p = 65533 := congrArg Prod.fst e
  have e2 : (enc p).length = 1 := congrArg Prod.snd e
  subst e1
  simp [enc] at e2

/-- enc is a prefix code -/
theorem enc_inj (p q : Nat) (s t : List UInt8) (hp : good p) (hq : good q) (h : enc p ++ s = enc q ++ t) : p = q := by
  have h1 := dec_enc p s hp
  have h2 := dec_enc q t hq
  rw [h, h2] at h1
  exact (congrArg Prod.fst h1).symm

theorem dec_cut (p at_ : Nat) (hp : good p) (h1 : 1 ≤ at_) (h2 : at_ < (enc p).length) : dec ((enc p).take at_) = (65533, 1) := by
  apply Decidable.byContradiction
  intro h
  have hne : (enc p).take at_ ≠ [] := by
    intro e
    have := congrArg List.length e
    rw [List.length_take, List.length_nil] at this; omega
  obtain ⟨g1, g2, g3⟩ := dec_good _ hne h
  have hpos := dec_pos _ hne
  have hle : (dec ((enc p).take at_)).2 ≤ at_ := by
    have := hpos.2; rw [List.length_take] at this; omega
  rw [List.take_take, Nat.min_eq_left hle] at g3
  have e : enc (dec ((enc p).take at_)).1 ++ (enc p).drop (dec ((enc p).take at_)).2 = enc p ++ [] := by
    rw [← g3, List.take_append_drop, List.append_nil]
  have hpq := enc_inj _ _ _ _ g1 hp e
  rw [hpq] at g2
  omega

/-! the reference's reading -/
def refN (x : Nat) : Nat := if 240 ≤ x then 4 else if 224 ≤ x then 3 else if 192 ≤ x then 2 else 1
def refB (x : Nat) : Nat := if 240 ≤ x then 240 else if 224 ≤ x then 224 else if 192 ≤ x then 192 else 0
def acc (l : List UInt8) (p : Int) : Nat → Int
  | 0 => p
  | k + 1 => acc l p k * 64 + (b l (k + 1) : Int) - 128
def refP (l : List UInt8) : Int := acc l ((b l 0 : Int) - (refB (b l 0) : Int)) (refN (b l 0) - 1)
/-- what the reference asks at the end -/
def refOk (l : List UInt8) : Prop := refN (b l 0) ≤ l.length ∧ 0 ≤ refP l ∧ good (refP l).toNat ∧ enc (refP l).toNat = l.take (refN (b l 0))
instance (l : List UInt8) : Decidable (refOk l) := by unfold refOk; infer_instance
def first (l : List UInt8) : Int × Nat := if l ≠ [] ∧ refOk l then (refP l, refN (b l 0)) else (0, 0)

set_option maxHeartbeats 1000000 in
theorem ref_enc (p : Nat) (t : List UInt8) (h : good p) : refP (enc p ++ t) = p ∧ refN (b (enc p ++ t) 0) = (enc p).length := by
  unfold good at h
  unfold enc
  split
  · simp only [List.cons_append, List.nil_append, List.length_cons, List.length_nil, refP, b_zero]
    rw [u8_toNat_lt (by omega)]
    have e1 : refN p = 1 := by unfold refN; rw [if_neg (by omega), if_neg (by omega), if_neg (by omega)]
    have e2 : refB p = 0 := by unfold refB; rw [if_neg (by omega), if_neg (by omega), if_neg (by omega)]
    rw [e1, e2]
    simp [acc]
  split
  · simp only [List.cons_append, List.nil_append, List.length_cons, List.length_nil, refP, b_zero]
    rw [u8_toNat_lt (by omega)]
    have e1 : refN (192 + p / 64) = 2 := by unfold refN; rw [if_neg (by omega), if_neg (by omega), if_pos (by omega)]
    have e2 : refB (192 + p / 64) = 192 := by unfold refB; rw [if_neg (by omega), if_neg (by omega), if_pos (by omega)]
    rw [e1, e2]
    simp only [acc, b_zero, b_one, Nat.zero_add, Nat.add_one_sub_one]
    rw [u8_toNat_lt (by omega)]
    exact ⟨by omega, trivial⟩
  split
  · simp only [List.cons_append, List.nil_append, List.length_cons, List.length_nil, refP, b_zero]
    rw [u8_toNat_lt (by omega)]
    have e1 : refN (224 + p / 4096) = 3 := by unfold refN; rw [if_neg (by omega), if_pos (by omega)]
    have e2 : refB (224 + p / 4096) = 224 := by unfold refB; rw [if_neg (by omega), if_pos (by omega)]
    rw [e1, e2]
    simp only [acc, b_zero, b_one, b_two, Nat.zero_add, Nat.reduceAdd, Nat.reduceSub]
    rw [u8_toNat_lt (by omega), u8_toNat_lt (by omega)]
    exact ⟨by omega, trivial⟩
  · simp only [List.cons_append, List.nil_append, List.length_cons, List.length_nil, refP, b_zero]
    rw [u8_toNat_lt (by omega)]
    have e1 : refN (240 + p / 262144) = 4 := by unfold refN; rw [if_pos (by omega)]
    have e2 : refB (240 + p / 262144) = 240 := by unfold refB; rw [if_pos (by omega)]
    rw [e1, e2]
    simp only [acc, b_zero, b_one, b_two, b_three, Nat.zero_add, Nat.reduceAdd, Nat.reduceSub]
    rw [u8_toNat_lt (by omega), u8_toNat_lt (by omega), u8_toNat_lt (by omega)]
    exact ⟨by omega, trivial⟩

theorem first_enc (p : Nat) (t : List UInt8) (h : good p) : first (enc p ++ t) = ((p : Int), (enc p).length) := by
  obtain ⟨h1, h2⟩ := ref_enc p t h
  have hok : refOk (enc p ++ t) := by
    unfold refOk
    rw [h1, h2]
    refine ⟨by simp, by omega, by simpa using h, by simp⟩
  have hne : enc p ++ t ≠ [] := by simp [enc_ne]
  unfold first
  rw [if_pos ⟨hne, hok⟩, h1, h2]

/-- the reference's reading of a text that is not empty -/
theorem first_eq (l : List UInt8) (hl : l ≠ []) : first l = if dec l = (65533, 1) then (0, 0) else (((dec l).1 : Int), (dec l).2) := by
  split
  · rename_i hd
    unfold first
    rw [if_neg]
    rintro ⟨_, h1, h2, h3, h4⟩
    have e : l = enc (refP l).toNat ++ l.drop (refN (b l 0)) := by rw [h4, List.take_append_drop]
    rw [e] at hd
    exact dec_enc_ne _ _ h3 hd
  · rename_i hd
    obtain ⟨g1, g2, g3⟩ := dec_good l hl hd
    have e : l = enc (dec l).1 ++ l.drop (dec l).2 := by rw [← g3, List.take_append_drop]
    have := first_enc (dec l).1 (l.drop (dec l).2) g1
    rw [← e] at this
    rw [this, ← g2]

/-- the width that both go on by -/
theorem first_step (l : List UInt8) (hl : l ≠ []) : (if (first l).2 = 0 then 1 else (first l).2) = (dec l).2 := by
  rw [first_eq l hl]
  have := (dec_pos l hl).1
  split
  · rename_i h; rw [h]; rfl
  · simp only; rw [if_neg (by omega)]

/-! all code points of a text -/
def bad (l : List UInt8) : Prop := l = [] ∨ dec l = (65533, 1)
instance (l : List UInt8) : Decidable (bad l) := by unfold bad; infer_instance
def scan : Nat → List UInt8 → List Nat × Nat
  | 0, _ => ([], 0)
  | f + 1, l => if bad l then ([], 0) else ((dec l).1 :: (scan f (l.drop (dec l).2)).1, (dec l).2 + (scan f (l.drop (dec l).2)).2)
def pts (l : List UInt8) : List Nat × Nat := scan l.length l

theorem scan_fuel : ∀ (f g : Nat) (l : List UInt8), l.length ≤ f → l.length ≤ g → scan f l = scan g l := by
  intro f
  induction f with
  | zero =>
    intro g l h _
    have : l = [] := List.eq_nil_of_length_eq_zero (by omega)
    subst this
    cases g <;> simp [scan, bad]
  | succ f ih =>
    intro g l hf hg
    by_cases hb : bad l
    · cases g <;> simp [scan, hb]
    · have hne : l ≠ [] := fun h => hb (.inl h)
      have hp := dec_pos l hne
      cases g with
      | zero => exact absurd (List.eq_nil_of_length_eq_zero (by omega)) hne
      | succ g =>
        have := ih g (l.drop (dec l).2) (by rw [List.length_drop]; omega) (by rw [List.length_drop]; omega)
        simp [scan, hb, this]

theorem pts_bad (l : List UInt8) (h : bad l) : pts l = ([], 0) := by
  unfold pts
  cases hl : l.length with
  | zero => simp [scan]
  | succ f => simp [scan, h]

theorem pts_step (l : List UInt8) (h : ¬ bad l) : pts l = ((dec l).1 :: (pts (l.drop (dec l).2)).1, (dec l).2 + (pts (l.drop (dec l).2)).2) := by
  have hne : l ≠ [] := fun e => h (.inl e)
  have hp := dec_pos l hne
  have hlen := List.length_pos_iff.2 hne
  unfold pts
  rw [scan_fuel l.length ((l.length - 1) + 1) l (Nat.le_refl _) (by omega)]
  simp only [scan, if_neg h]
  rw [scan_fuel (l.length - 1) (l.drop (dec l).2).length (l.drop (dec l).2) (by rw [List.length_drop]; omega) (Nat.le_refl _)]

def encAll (ps : List Nat) : List UInt8 := ps.flatMap enc
theorem encAll_nil : encAll [] = [] := rfl
theorem encAll_cons (p : Nat) (ps : List Nat) : encAll (p :: ps) = enc p ++ encAll ps := rfl
theorem encAll_append (ps qs : List Nat) : encAll (ps ++ qs) = encAll ps ++ encAll qs := by simp [encAll]

theorem not_bad_enc (p : Nat) (t : List UInt8) (h : good p) : ¬ bad (enc p ++ t) := by
  rintro (h1 | h1)
  · simp [enc_ne] at h1
  · exact dec_enc_ne p t h h1

theorem pts_encAll (ps : List Nat) (t : List UInt8) (h : ∀ p ∈ ps, good p) : pts (encAll ps ++ t) = (ps ++ (pts t).1, (encAll ps).length + (pts t).2) := by
  induction ps with
  | nil => simp [encAll]
  | cons p ps ih =>
    have hp : good p := h p (by simp)
    have ih := ih (fun q hq => h q (by simp [hq]))
    rw [encAll_cons, List.append_assoc, pts_step _ (not_bad_enc p _ hp), dec_enc p _ hp]
    simp only [List.drop_left, ih, List.length_append, List.cons_append]
    rw [Nat.add_assoc]

theorem pts_back (n : Nat) : ∀ l : List UInt8, l.length ≤ n → (pts l).2 ≤ l.length ∧ (∀ p ∈ (pts l).1, good p) ∧ l.take (pts l).2 = encAll (pts l).1 := by
  induction n with
  | zero =>
    intro l h
    have : l = [] := List.eq_nil_of_length_eq_zero (by omega)
    subst this
    rw [pts_bad [] (.inl rfl)]; simp [encAll]
  | succ n ih =>
    intro l h
    by_cases hb : bad l
    · rw [pts_bad l hb]; simp [encAll]
    · have hne : l ≠ [] := fun e => hb (.inl e)
      have hd : dec l ≠ (65533, 1) := fun e => hb (.inr e)
      have hp := dec_pos l hne
      obtain ⟨g1, g2, g3⟩ := dec_good l hne hd
      obtain ⟨i1, i2, i3⟩ := ih (l.drop (dec l).2) (by rw [List.length_drop]; omega)
      rw [List.length_drop] at i1
      rw [pts_step l hb]
      refine ⟨by simp only; omega, ?_, ?_⟩
      · simp only [List.mem_cons]
        rintro p (rfl | hp)
        · exact g1
        · exact i2 p hp
      · simp only [encAll_cons]
        rw [← i3, ← g3, List.take_add]

theorem pts_le (l : List UInt8) : (pts l).2 ≤ l.length := (pts_back _ l (Nat.le_refl _)).1
theorem pts_good (l : List UInt8) : ∀ p ∈ (pts l).1, good p := (pts_back _ l (Nat.le_refl _)).2.1
theorem pts_take (l : List UInt8) : l.take (pts l).2 = encAll (pts l).1 := (pts_back _ l (Nat.le_refl _)).2.2
theorem pts_nil : pts [] = ([], 0) := pts_bad [] (.inl rfl)
theorem encAll_length (ps : List Nat) : ps.length ≤ (encAll ps).length := by
  induction ps with
  | nil => simp
  | cons p ps ih => rw [encAll_cons, List.length_append]; have := (enc_length p).1; simp; omega
theorem encAll_length_le (ps : List Nat) : (encAll ps).length ≤ 4 * ps.length := by
  induction ps with
  | nil => simp [encAll]
  | cons p ps ih => rw [encAll_cons, List.length_append]; have := (enc_length p).2; simp; omega
theorem pts_length (l : List UInt8) : (pts l).1.length ≤ (pts l).2 := by
  have h := congrArg List.length (pts_take l)
  rw [List.length_take, Nat.min_eq_left (pts_le l)] at h
  rw [h]; exact encAll_length _

/-- a round of the loop of either reader -/
def Inv (l : List UInt8) (a : Nat) (ps : List Nat) : Prop := a ≤ l.length ∧ ps.length ≤ a ∧ pts l = (ps ++ (pts (l.drop a)).1, a + (pts (l.drop a)).2)
theorem inv_start (l : List UInt8) : Inv l 0 [] := ⟨by omega, by simp, by simp⟩
theorem inv_round {l : List UInt8} {a : Nat} {ps : List Nat} (h : Inv l a ps) (hb : ¬ bad (l.drop a)) : Inv l (a + (dec (l.drop a)).2) (ps ++ [(dec (l.drop a)).1]) := by
  obtain ⟨h1, h2, h3⟩ := h
  have hne : l.drop a ≠ [] := fun e => hb (.inl e)
  have hp := dec_pos _ hne
  rw [List.length_drop] at hp
  refine ⟨by omega, by simp; omega, ?_⟩
  rw [h3, pts_step _ hb]
  simp only [List.drop_drop, List.append_assoc, List.cons_append, List.nil_append]
  rw [Nat.add_assoc]
theorem inv_end {l : List UInt8} {a : Nat} {ps : List Nat} (h : Inv l a ps) (hb : bad (l.drop a)) : pts l = (ps, a) := by
  rw [h.2.2, pts_bad _ hb]; simp

end Utf
