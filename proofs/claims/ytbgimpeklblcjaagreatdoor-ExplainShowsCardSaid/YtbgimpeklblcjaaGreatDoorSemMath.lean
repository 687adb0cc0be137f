/- Versions in plain Lean: texts of digits, parts, the text at its dots. -/
import GoSem.Core.Utf8
import Derived.Test.YtbgimpeklblcjaaGreatDoorBase
import Derived.Lib.SplitLaws
import Derived.Lib.SlTrimSet
import Derived.Lib.ItoaNum
import Derived.Lib.AtoiAll
import Derived.Lib.IndexBytes
import Derived.Lib.Bytealg
import Derived.Lib.TrimByte
namespace Sem4
def isDig (c : UInt8) : Bool := decide (48 ≤ c.toNat) && decide (c.toNat ≤ 57)
def digits (l : List UInt8) : Bool := !l.isEmpty && l.all isDig
def partCh (c : UInt8) : Bool := isDig c || (decide (97 ≤ c.toNat) && decide (c.toNat ≤ 122)) || (decide (65 ≤ c.toNat) && decide (c.toNat ≤ 90)) || decide (c.toNat = 45)
def part (l : List UInt8) : Bool := !l.isEmpty && l.all partCh && (!digits l || decide (l = [48]) || decide (l.head? ≠ some 48))
/-- a text at its dots -/
def dots : List UInt8 → List (List UInt8)
 | [] => [[]]
 | c :: l => if c = 46 then [] :: dots l else match dots l with
  | [] => [[c]]
  | p :: ps => (c :: p) :: ps
theorem dots_ne (l : List UInt8) : dots l ≠ [] := by
 induction l with
 | nil => simp [dots]
 | cons c l ih =>
  unfold dots
  split
  ·simp
  ·split <;> simp
/-- with one more byte behind -/
def dotSnoc (ps : List (List UInt8)) (c : UInt8) : List (List UInt8) := if c = 46 then ps ++ [[]] else ps.dropLast ++ [(ps.getLastD []) ++ [c]]
theorem dots_snoc (l : List UInt8) (c : UInt8) : dots (l ++ [c]) = dotSnoc (dots l) c := by
 induction l with
 | nil =>
  by_cases h : c = 46
  ·subst h; rfl
  ·simp [dots, dotSnoc, h]
 | cons x l ih =>
  rw [List.cons_append]
  by_cases hx : x = 46
  ·subst hx
   rw [dots, if_pos rfl, dots, if_pos rfl, ih]
   unfold dotSnoc
   split
   ·simp
   ·have := dots_ne l
    cases hd : dots l with
    | nil => exact absurd hd this
    | cons p ps => simp
  ·rw [dots, if_neg hx, ih, dots, if_neg hx]
   cases hd : dots l with
   | nil => exact absurd hd (dots_ne l)
   | cons p ps =>
    by_cases hc : c = 46
    ·simp [dotSnoc, hc]
    ·cases ps with
     | nil => simp [dotSnoc, hc]
     | cons q qs => simp [dotSnoc, hc]
end Sem4
namespace Go
def numOk (n : Int) : Bool := decide (0 ≤ n) && decide (n ≤ 999999)
/-- may what stands behind the '-' be? -/
def preOk (p : List UInt8) : Bool := p.isEmpty || (Sem4.dots p).all Sem4.part
/-- may a version be? -/
def verOk (a b c : Int) (p : List UInt8) : Bool := numOk a && numOk b && numOk c && decide (p.length ≤ 24) && preOk p
def verErr (a b c : Int) (p : List UInt8) : Int := if verOk a b c p then 0 else 40
/-- a number's digits -/
def dig10 (n : Nat) : List UInt8 := if n < 10 then [UInt8.ofNat (48 + n)] else dig10 (n / 10) ++ [UInt8.ofNat (48 + n % 10)]
theorem dig10_lt (n : Nat) (h : n < 10) : dig10 n = [UInt8.ofNat (48 + n)] := by rw [dig10, if_pos h]
theorem dig10_ge (n : Nat) (h : 10 ≤ n) : dig10 n = dig10 (n / 10) ++ [UInt8.ofNat (48 + n % 10)] := by rw [dig10, if_neg (by omega)]
def showCore (a b c : Nat) : List UInt8 := dig10 a ++ [46] ++ dig10 b ++ [46] ++ dig10 c
def showL (a b c : Nat) (p : List UInt8) : List UInt8 := if p.isEmpty then showCore a b c else showCore a b c ++ [45] ++ p
theorem ofNat_toNat (n : Nat) (h : n < 256) : (UInt8.ofNat n).toNat = n := by
 simp; omega
theorem isDig_of (d : Nat) (h : d < 10) : Sem4.isDig (UInt8.ofNat (48 + d)) = true := by
 unfold Sem4.isDig; rw [ofNat_toNat _ (by omega)]; simp; omega
theorem dig10_all (n : Nat) : (dig10 n).all Sem4.isDig = true := by
 induction n using Nat.strongRecOn with
 | ind n ih =>
  by_cases h : n < 10
  ·rw [dig10_lt n h, List.all_cons, isDig_of n h]; rfl
  ·rw [dig10_ge n (by omega), List.all_append, ih (n / 10) (by omega), List.all_cons, isDig_of (n % 10) (by omega)]; rfl
theorem dig10_ne (n : Nat) : dig10 n ≠ [] := by
 by_cases h : n < 10
 ·rw [dig10_lt n h]; simp
 ·rw [dig10_ge n (by omega)]; simp
/-- a number out of digits, as the document reads it: what is too great is not read on -/
def dstep (m : Nat) (c : UInt8) : Nat := if m ≤ 999999 then 10 * m + (c.toNat - 48) else m
def dfold (l : List UInt8) : Nat := l.foldl dstep 0
theorem dfold_snoc (l : List UInt8) (c : UInt8) : dfold (l ++ [c]) = dstep (dfold l) c := by simp [dfold]
theorem dfold_dig10 (n : Nat) (h : n ≤ 9999999) : dfold (dig10 n) = n := by
 induction n using Nat.strongRecOn with
 | ind n ih =>
  by_cases hn : n < 10
  ·rw [dig10_lt n hn]; unfold dfold; simp only [List.foldl_cons, List.foldl_nil]; unfold dstep; rw [ofNat_toNat _ (by omega)]; simp
  ·rw [dig10_ge n (by omega), dfold_snoc, ih (n / 10) (by omega) (by omega)]
   unfold dstep; rw [ofNat_toNat _ (by omega), if_pos (by omega)]; omega
theorem dots_dig (l : List UInt8) (h : ∀ c ∈ l, c ≠ 46) : Sem4.dots l = [l] := by
 induction l with
 | nil => rfl
 | cons c l ih => rw [Sem4.dots, if_neg (h c (by simp)), ih (fun x hx => h x (by simp [hx]))]
theorem dots_app (l y : List UInt8) (h : ∀ c ∈ l, c ≠ 46) : Sem4.dots (l ++ 46 :: y) = l :: Sem4.dots y := by
 induction l with
 | nil => simp [Sem4.dots]
 | cons c l ih => rw [List.cons_append, Sem4.dots, if_neg (h c (by simp)), ih (fun x hx => h x (by simp [hx]))]
theorem dig_ne46 {l : List UInt8} (h : l.all Sem4.isDig = true) : ∀ c ∈ l, c ≠ 46 := by
 rintro c hc rfl
 have := List.all_eq_true.1 h _ hc
 simp [Sem4.isDig] at this
theorem dig_ne45 {l : List UInt8} (h : l.all Sem4.isDig = true) : ∀ c ∈ l, c ≠ 45 := by
 rintro c hc rfl
 have := List.all_eq_true.1 h _ hc
 simp [Sem4.isDig] at this
theorem dots_core (a b c : Nat) : Sem4.dots (showCore a b c) = [dig10 a, dig10 b, dig10 c] := by
 unfold showCore
 rw [show dig10 a ++ [46] ++ dig10 b ++ [46] ++ dig10 c = dig10 a ++ 46 :: (dig10 b ++ 46 :: dig10 c) by simp,
  dots_app _ _ (dig_ne46 (dig10_all a)), dots_app _ _ (dig_ne46 (dig10_all b)), dots_dig _ (dig_ne46 (dig10_all c))]
def notDash (c : UInt8) : Bool := decide (c ≠ 45)
theorem core_dash (a b c : Nat) : ∀ x ∈ showCore a b c, notDash x = true := by
 intro x hx
 unfold showCore at hx
 simp only [List.mem_append, List.mem_singleton] at hx
 unfold notDash
 rcases hx with (((hx | hx) | hx) | hx) | hx
 ·simpa using dig_ne45 (dig10_all _) _ hx
 ·subst hx; decide
 ·simpa using dig_ne45 (dig10_all _) _ hx
 ·subst hx; decide
 ·simpa using dig_ne45 (dig10_all _) _ hx
/-- what stands ahead of the first '-', and what behind it -/
def coreOf (l : List UInt8) : List UInt8 := l.takeWhile notDash
def preOf (l : List UInt8) : List UInt8 := (l.dropWhile notDash).drop 1
theorem coreOf_show (a b c : Nat) (p : List UInt8) : coreOf (showL a b c p) = showCore a b c := by
 unfold coreOf showL
 split
 ·have := List.takeWhile_append_of_pos (l₂ := []) (core_dash a b c)
  simpa using this
 ·rw [List.append_assoc, List.takeWhile_append_of_pos (core_dash a b c)]; simp [notDash]
theorem preOf_show (a b c : Nat) (p : List UInt8) : preOf (showL a b c p) = p := by
 unfold preOf showL
 split
 ·rename_i h
  have := List.dropWhile_append_of_pos (l₂ := []) (core_dash a b c)
  simp at this h
  rw [this, h]; rfl
 ·rw [List.append_assoc, List.dropWhile_append_of_pos (core_dash a b c)]; simp [notDash]
theorem core_inj {a b c a' b' c' : Nat} (ha : a ≤ 999999) (hb : b ≤ 999999) (hc : c ≤ 999999) (ha' : a' ≤ 999999) (hb' : b' ≤ 999999) (hc' : c' ≤ 999999)
  (h : showCore a b c = showCore a' b' c') : a = a' ∧ b = b' ∧ c = c' := by
 have h1 := congrArg Sem4.dots h
 rw [dots_core, dots_core] at h1
 simp only [List.cons.injEq, and_true] at h1
 have g : ∀ x y, x ≤ 999999 → y ≤ 999999 → dig10 x = dig10 y → x = y := by
  intro x y hx hy e
  rw [← dfold_dig10 x (by omega), ← dfold_dig10 y (by omega), e]
 exact ⟨g _ _ ha ha' h1.1, g _ _ hb hb' h1.2.1, g _ _ hc hc' h1.2.2⟩
theorem showL_inj {a b c a' b' c' : Nat} {p p' : List UInt8} (ha : a ≤ 999999) (hb : b ≤ 999999) (hc : c ≤ 999999) (ha' : a' ≤ 999999) (hb' : b' ≤ 999999) (hc' : c' ≤ 999999)
  (h : showL a b c p = showL a' b' c' p') : a = a' ∧ b = b' ∧ c = c' ∧ p = p' := by
 have h1 := congrArg coreOf h
 have h2 := congrArg preOf h
 rw [coreOf_show, coreOf_show] at h1
 rw [preOf_show, preOf_show] at h2
 obtain ⟨x, y, z⟩ := core_inj ha hb hc ha' hb' hc' h1
 exact ⟨x, y, z, h2⟩
theorem verOk_bounds {a b c : Int} {p : List UInt8} (h : verOk a b c p = true) : 0 ≤ a ∧ a ≤ 999999 ∧ 0 ≤ b ∧ b ≤ 999999 ∧ 0 ≤ c ∧ c ≤ 999999 ∧ p.length ≤ 24 ∧ preOk p = true := by
 simp only [verOk, numOk, Bool.and_eq_true, decide_eq_true_eq] at h
 obtain ⟨⟨⟨⟨⟨h1, h2⟩, h3, h4⟩, h5, h6⟩, h7⟩, h8⟩ := h
 exact ⟨h1, h2, h3, h4, h5, h6, h7, h8⟩
/-- the text of a version that may be, and nothing else -/
def IsShow (a b c : Int) (p : List UInt8) (l : List UInt8) : Prop := verOk a b c p = true ∧ showL a.toNat b.toNat c.toNat p = l
/-- the version that a text is, or the error -/
def ParseIs (l : List UInt8) (a b c : Int) (p : List UInt8) (e : Int) : Prop :=
 (e = 0 ∧ IsShow a b c p l) ∨ (e = 40 ∧ a = 0 ∧ b = 0 ∧ c = 0 ∧ p = [] ∧ ∀ a b c p, ¬ IsShow a b c p l)
theorem ParseIs.uniq {l : List UInt8} {a b c a' b' c' e e' : Int} {p p' : List UInt8} (h : ParseIs l a b c p e) (h' : ParseIs l a' b' c' p' e') : a = a' ∧ b = b' ∧ c = c' ∧ p = p' ∧ e = e' := by
 rcases h with ⟨rfl, h1, h2⟩ | ⟨rfl, rfl, rfl, rfl, rfl, h⟩ <;> rcases h' with ⟨rfl, g1, g2⟩ | ⟨rfl, rfl, rfl, rfl, rfl, g⟩
 ·have b1 := verOk_bounds h1
  have b2 := verOk_bounds g1
  have := showL_inj (by omega) (by omega) (by omega) (by omega) (by omega) (by omega) (h2.trans g2.symm)
  exact ⟨by omega, by omega, by omega, this.2.2.2, rfl⟩
 ·exact absurd ⟨h1, h2⟩ (g _ _ _ _)
 ·exact absurd ⟨g1, g2⟩ (h _ _ _ _)
 ·exact ⟨rfl, rfl, rfl, rfl, rfl⟩
end Go
namespace Go
def ord (a b : Int) : Int := if a < b then -1 else if b < a then 1 else 0
def txt (a b : List UInt8) : Int := if Op.bytesLess a b then -1 else if a == b then 0 else 1
theorem txt_cons (a b : UInt8) (x y : List UInt8) : txt (a :: x) (b :: y) = if a < b then -1 else if b < a then 1 else txt x y := by
 unfold txt
 rw [Op.bytesLess]
 by_cases h1 : a < b
 ·simp [h1]
 ·by_cases h2 : b < a
  ·have : a ≠ b := by rintro rfl; exact h1 h2
   simp [h1, h2, this]
  ·have : a = b := by
    apply UInt8.toNat_inj.1
    rw [UInt8.lt_iff_toNat_lt] at h1 h2
    omega
   subst this
   simp [h1]
theorem compare_txt : ∀ a b : List UInt8, Lib.compareBytes a b = txt a b
 | [], [] => rfl
 | [], _ :: _ => rfl
 | _ :: _, [] => rfl
 | a :: x, b :: y => by rw [txt_cons, Lib.compareBytes, compare_txt x y]
theorem txt_app (r a b : List UInt8) : txt (r ++ a) (r ++ b) = txt a b := by
 induction r with
 | nil => rfl
 | cons c r ih => rw [List.cons_append, List.cons_append, txt_cons, if_neg (by rw [UInt8.lt_iff_toNat_lt]; omega), if_neg (by rw [UInt8.lt_iff_toNat_lt]; omega), ih]
theorem dropWhile_nil {p : UInt8 → Bool} : ∀ {l : List UInt8}, l.dropWhile p = [] → l.all p = true
 | [], _ => rfl
 | a :: l, h => by
  rw [List.dropWhile_cons] at h
  split at h
  ·rename_i ha; rw [List.all_cons, ha, dropWhile_nil h]; rfl
  ·cases h
theorem dropWhile_all {p : UInt8 → Bool} : ∀ {l : List UInt8}, l.all p = true → l.dropWhile p = []
 | [], _ => rfl
 | a :: l, h => by
  rw [List.all_cons, Bool.and_eq_true] at h
  rw [List.dropWhile_cons, if_pos h.1, dropWhile_all h.2]
theorem dropWhile_head {p : UInt8 → Bool} : ∀ {l : List UInt8} {a : UInt8} {r : List UInt8}, l.dropWhile p = a :: r → p a = false
 | [], _, _, h => by cases h
 | b :: l, a, r, h => by
  rw [List.dropWhile_cons] at h
  split at h
  ·exact dropWhile_head h
  ·rename_i hb; injection h with h1 _; subst h1; simpa using hb
theorem digs_isDig : ∀ c : UInt8, ([48, 49, 50, 51, 52, 53, 54, 55, 56, 57] : List UInt8).contains c = Sem4.isDig c := by
 have h : ∀ n : Fin 256, ([48, 49, 50, 51, 52, 53, 54, 55, 56, 57] : List UInt8).contains (UInt8.ofNat n.val) = Sem4.isDig (UInt8.ofNat n.val) := by decide +kernel
 intro c
 have := h ⟨c.toNat, c.toNat_lt⟩
 simpa using this
theorem trim_digits (l : List UInt8) : (Lib.trimS l [48, 49, 50, 51, 52, 53, 54, 55, 56, 57]).isEmpty = l.all Sem4.isDig := by
 have hf : (([48, 49, 50, 51, 52, 53, 54, 55, 56, 57] : List UInt8).contains ·) = Sem4.isDig := funext digs_isDig
 unfold Lib.trimS Lib.trimLeftS Lib.trimRightS
 rw [hf, Bool.eq_iff_iff, List.isEmpty_iff]
 constructor
 ·intro h
  have h1 := dropWhile_nil h
  rw [List.all_reverse] at h1
  cases hd : l.reverse.dropWhile Sem4.isDig with
  | nil => have := dropWhile_nil hd; rwa [List.all_reverse] at this
  | cons a r =>
   rw [hd, List.all_cons, dropWhile_head hd] at h1; cases h1
 ·intro h
  rw [dropWhile_all (l := l.reverse) (by rwa [List.all_reverse])]; rfl
theorem splitK_dots (n : Nat) : ∀ (l : List UInt8), l.length ≤ n → Lib.splitK [46] 0 (l.count 46) l = Sem4.dots l := by
 induction n with
 | zero => intro l h; obtain rfl : l = [] := List.eq_nil_of_length_eq_zero (by omega); rfl
 | succ n ih =>
  intro l hl
  cases hc : l.count 46 with
  | zero =>
   have hn : ∀ c ∈ l, c ≠ 46 := by
    rintro c hc' rfl
    have := List.count_pos_iff.2 hc'
    omega
   rw [dots_dig l hn]; rfl
  | succ k =>
   have hm : (46 : UInt8) ∈ l := List.count_pos_iff.1 (by omega)
   obtain ⟨x, y, rfl, hx⟩ : ∃ x y, l = x ++ 46 :: y ∧ ∀ c ∈ x, c ≠ 46 := by
    clear hl hc
    induction l with
    | nil => cases hm
    | cons a l ih =>
     by_cases ha : a = 46
     ·subst ha; exact ⟨[], l, rfl, by simp⟩
     ·obtain ⟨x, y, h1, h2⟩ := ih (by rcases List.mem_cons.1 hm with h | h; exact absurd h.symm ha; exact h)
      refine ⟨a :: x, y, by rw [h1]; rfl, fun c hc => ?_⟩
      rcases List.mem_cons.1 hc with rfl | h
      ·exact ha
      ·exact h2 c h
   have hx0 : x.count 46 = 0 := List.count_eq_zero.2 (fun h => hx _ h rfl)
   rw [List.count_append, hx0, List.count_cons_self] at hc
   have hi : Lib.index (x ++ 46 :: y) [46] = (x.length : Int) := by
    rw [Lib.index_one]
    clear hl hc hm hx0
    induction x with
    | nil => rfl
    | cons a x ih =>
     have := ih (fun c hc => hx c (by simp [hc]))
     have ha := hx a (by simp)
     have hb : (a == 46) = false := by simpa using ha
     rw [List.cons_append, Lib.indexByte, hb, this]
     have : ((x.length : Int) == -1) = false := by simp
     rw [this]
     simp
   rw [dots_app x y hx]
   unfold Lib.splitK
   have : ((x.length : Int) == -1) = false := by simp
   rw [hi, this]
   simp only [Int.toNat_natCast, Nat.add_zero, List.length_singleton, Bool.false_eq_true, if_false]
   rw [List.take_left', show (x ++ 46 :: y).drop (x.length + 1) = y by simp]
   ·have hk : k = y.count 46 := by omega
    rw [hk, ih y (by simp at hl; omega)]
   ·rfl
theorem split_dots (s : ByteArray) : (Lib.splitB ⟨#[46]⟩ 0 (Lib.countB s ⟨#[46]⟩) s) = (Sem4.dots s.data.toList).map S := by
 have h := Lib.splitB_data ⟨#[46]⟩ 0 (Lib.countB s ⟨#[46]⟩) s
 have hc : Lib.countB s ⟨#[46]⟩ = s.data.toList.count 46 := by
  show Lib.count _ _ = _
  exact Lib.count_one 46 _
 rw [hc] at h ⊢
 rw [show (⟨#[46]⟩ : ByteArray).data.toList = [46] from rfl, splitK_dots _ _ (Nat.le_refl _)] at h
 have := congrArg (List.map S) h
 rw [List.map_map] at this
 rw [← this]
 conv => lhs; rw [← List.map_id (Lib.splitB _ _ _ _)]
 rfl
theorem count_dots (l : List UInt8) : (Sem4.dots l).length = l.count 46 + 1 := by
 induction l with
 | nil => rfl
 | cons c l ih =>
  by_cases h : c = 46
  ·subst h; rw [Sem4.dots, if_pos rfl, List.count_cons_self, List.length_cons, ih]
  ·rw [Sem4.dots, if_neg h, List.count_cons_of_ne h]
   split
   ·rename_i hd; exact absurd hd (Sem4.dots_ne l)
   ·rename_i hd; rw [hd] at ih; simpa using ih
theorem countB_dots (s : ByteArray) : Lib.countB s ⟨#[46]⟩ + 1 = (Sem4.dots s.data.toList).length := by
 rw [count_dots]
 have : Lib.countB s ⟨#[46]⟩ = s.data.toList.count 46 := by
  show Lib.count _ _ = _
  exact Lib.count_one 46 _
 rw [this]
end Go
namespace Go
def pad (n : Nat) (l : List UInt8) : List UInt8 := List.replicate (n - l.length) 48 ++ l
def partsCmp (a b : List UInt8) : Int := if Sem4.digits a then (if Sem4.digits b then txt (pad b.length a) (pad a.length b) else -1) else (if Sem4.digits b then 1 else txt a b)
/-- what cmp.Or of two hands back -/
def or2 (a b : Int) : Int := if a = 0 then b else a
def numCmp (a b : List UInt8) : Int := or2 (ord ((Lib.trimLeftB a 48).length : Int) ((Lib.trimLeftB b 48).length : Int)) (txt (Lib.trimLeftB a 48) (Lib.trimLeftB b 48))
theorem ord_lt {a b : Int} (h : a < b) : ord a b = -1 := by unfold ord; rw [if_pos h]
theorem ord_gt {a b : Int} (h : b < a) : ord a b = 1 := by unfold ord; rw [if_neg (by omega), if_pos h]
theorem ord_eq (a : Int) : ord a a = 0 := by unfold ord; rw [if_neg (by omega), if_neg (by omega)]
theorem zeros_trim (l : List UInt8) : ∃ k, l = List.replicate k 48 ++ Lib.trimLeftB l 48 := by
 induction l with
 | nil => exact ⟨0, rfl⟩
 | cons c l ih =>
  unfold Lib.trimLeftB at ih ⊢
  rw [List.dropWhile_cons]
  by_cases h : c = 48
  ·obtain ⟨k, hk⟩ := ih
   subst h
   refine ⟨k + 1, ?_⟩
   rw [if_pos (by decide), List.replicate_succ, List.cons_append, ← hk]
  ·rw [if_neg (by simpa using h)]; exact ⟨0, rfl⟩
theorem pad_trim (n : Nat) (l : List UInt8) : pad n l = List.replicate (max n l.length - (Lib.trimLeftB l 48).length) 48 ++ Lib.trimLeftB l 48 := by
 obtain ⟨k, hk⟩ := zeros_trim l
 have hl := congrArg List.length hk
 simp at hl
 unfold pad
 conv => lhs; rw [hk]
 rw [← List.append_assoc, List.replicate_append_replicate, hl, List.length_append, List.length_replicate]
 congr 2
 omega
theorem trim_head {l : List UInt8} (h : l.all Sem4.isDig = true) {c : UInt8} {r : List UInt8} (e : Lib.trimLeftB l 48 = c :: r) : (48 : UInt8) < c := by
 have h1 : c ≠ 48 := by
  have := dropWhile_head (p := (· == 48)) e
  simpa using this
 have h2 : c ∈ l := by
  have : c ∈ Lib.trimLeftB l 48 := by rw [e]; simp
  exact (List.dropWhile_sublist _).mem this
 have h3 := List.all_eq_true.1 h _ h2
 simp [Sem4.isDig] at h3
 rw [UInt8.lt_iff_toNat_lt]
 have : c.toNat ≠ 48 := fun e => h1 (UInt8.toNat_inj.1 e)
 show 48 < c.toNat
 omega
theorem txt_zeros {k : Nat} (hk : 0 < k) (x : List UInt8) {c : UInt8} (r : List UInt8) (hc : (48 : UInt8) < c) : txt (List.replicate k 48 ++ x) (c :: r) = -1 ∧ txt (c :: r) (List.replicate k 48 ++ x) = 1 := by
 obtain ⟨j, rfl⟩ : ∃ j, k = j + 1 := ⟨k - 1, by omega⟩
 rw [List.replicate_succ, List.cons_append, txt_cons, txt_cons, if_pos hc, if_neg (by rw [UInt8.lt_iff_toNat_lt] at hc ⊢; omega), if_pos hc]
 exact ⟨rfl, rfl⟩
theorem numCmp_pad (a b : List UInt8) (ha : a.all Sem4.isDig = true) (hb : b.all Sem4.isDig = true) : txt (pad b.length a) (pad a.length b) = numCmp a b := by
 rw [pad_trim, pad_trim]
 have la : (Lib.trimLeftB a 48).length ≤ a.length := (List.dropWhile_sublist _).length_le
 have lb : (Lib.trimLeftB b 48).length ≤ b.length := (List.dropWhile_sublist _).length_le
 unfold numCmp
 rcases Nat.lt_trichotomy (Lib.trimLeftB a 48).length (Lib.trimLeftB b 48).length with h | h | h
 ·rw [ord_lt (by omega), show or2 (-1) _ = -1 from rfl]
  cases e : Lib.trimLeftB b 48 with
  | nil => rw [e] at h; cases h
  | cons c r =>
   have hc := trim_head hb e
   rw [← e, show List.replicate (max b.length a.length - (Lib.trimLeftB a 48).length) (48 : UInt8) = List.replicate (max a.length b.length - (Lib.trimLeftB b 48).length) 48 ++ List.replicate ((Lib.trimLeftB b 48).length - (Lib.trimLeftB a 48).length) 48 by
    rw [List.replicate_append_replicate]; congr 1; omega, List.append_assoc, txt_app, e]
   rw [e] at h
   exact (txt_zeros (by omega) _ _ hc).1
 ·rw [h, ord_eq, Nat.max_comm, txt_app]; rfl
 ·rw [ord_gt (by omega), show or2 1 _ = 1 from rfl]
  cases e : Lib.trimLeftB a 48 with
  | nil => rw [e] at h; cases h
  | cons c r =>
   have hc := trim_head ha e
   rw [← e, show List.replicate (max a.length b.length - (Lib.trimLeftB b 48).length) (48 : UInt8) = List.replicate (max b.length a.length - (Lib.trimLeftB a 48).length) 48 ++ List.replicate ((Lib.trimLeftB a 48).length - (Lib.trimLeftB b 48).length) 48 by
    rw [List.replicate_append_replicate]; congr 1; omega, List.append_assoc, txt_app, e]
   rw [e] at h
   exact (txt_zeros (by omega) _ _ hc).2
theorem digits_all {l : List UInt8} (h : Sem4.digits l = true) : l.all Sem4.isDig = true := by
 unfold Sem4.digits at h; rw [Bool.and_eq_true] at h; exact h.2
theorem partsCmp_num (a b : List UInt8) : partsCmp a b = if Sem4.digits a then (if Sem4.digits b then numCmp a b else -1) else (if Sem4.digits b then 1 else txt a b) := by
 unfold partsCmp
 cases ha : Sem4.digits a <;> cases hb : Sem4.digits b <;> try rfl
 simp only [if_true]
 exact numCmp_pad a b (digits_all ha) (digits_all hb)
end Go
namespace Go
end Go
namespace Go
def cmp3 (a b c a' b' c' : Int) : Int := or2 (ord a a') (or2 (ord b b') (ord c c'))
def lcmp : List (List UInt8) → List (List UInt8) → Int
 | [], [] => 0
 | [], _ :: _ => -1
 | _ :: _, [] => 1
 | x :: xs, y :: ys => or2 (partsCmp x y) (lcmp xs ys)
def cmpPre (p q : List UInt8) : Int := if p.isEmpty then (if q.isEmpty then 0 else 1) else if q.isEmpty then -1 else lcmp (Sem4.dots p) (Sem4.dots q)
def cmpV (a b c : Int) (p : List UInt8) (a' b' c' : Int) (p' : List UInt8) : Int := or2 (cmp3 a b c a' b' c') (cmpPre p p')
theorem or2_ne {a : Int} (h : a ≠ 0) (b : Int) : or2 a b = a := by unfold or2; rw [if_neg h]
theorem or2_zero (b : Int) : or2 0 b = b := rfl
theorem lcmp_step {xs ys : List (List UInt8)} {k : Nat} (hx : k < xs.length) (hy : k < ys.length) : lcmp (xs.drop k) (ys.drop k) = or2 (partsCmp xs[k] ys[k]) (lcmp (xs.drop (k + 1)) (ys.drop (k + 1))) := by
 rw [List.drop_eq_getElem_cons hx, List.drop_eq_getElem_cons hy, lcmp]
theorem lcmp_end {xs ys : List (List UInt8)} {k : Nat} (hx : k ≤ xs.length) (hy : k ≤ ys.length) (h : k = xs.length ∨ k = ys.length) : lcmp (xs.drop k) (ys.drop k) = ord (xs.length : Int) (ys.length : Int) := by
 rcases Nat.lt_trichotomy xs.length ys.length with h1 | h1 | h1
 ·obtain rfl : k = xs.length := by omega
  rw [List.drop_length, List.drop_eq_getElem_cons h1, lcmp, ord_lt (by omega)]
 ·obtain rfl : k = xs.length := by omega
  rw [List.drop_length, h1, List.drop_length, lcmp, ord_eq]
 ·obtain rfl : k = ys.length := by omega
  rw [List.drop_length, List.drop_eq_getElem_cons h1, lcmp, ord_gt (by omega)]
end Go
namespace Go
end Go
namespace Go
/-- a comparison that is turned round rightly, and goes through a third -/
def OrdG {α : Type} (f : α → α → Int) : Prop := (∀ a b, f a b = - f b a) ∧ (∀ a b c, f a b ≤ 0 → f b c ≤ 0 → f a c ≤ 0)
theorem OrdG.self {α : Type} {f : α → α → Int} (h : OrdG f) (a : α) : f a a = 0 := by have := h.1 a a; omega
theorem OrdG.lt_le {α : Type} {f : α → α → Int} (h : OrdG f) {a b c : α} (h1 : f a b < 0) (h2 : f b c ≤ 0) : f a c < 0 := by
 have h3 := h.2 a b c (by omega) h2
 rcases Int.lt_or_eq_of_le h3 with h4 | h4
 ·exact h4
 ·have h5 := h.1 c a
  have h6 := h.2 b c a h2 (by omega)
  have h7 := h.1 a b
  omega
theorem OrdG.le_lt {α : Type} {f : α → α → Int} (h : OrdG f) {a b c : α} (h1 : f a b ≤ 0) (h2 : f b c < 0) : f a c < 0 := by
 have h3 := h.2 a b c h1 (by omega)
 rcases Int.lt_or_eq_of_le h3 with h4 | h4
 ·exact h4
 ·have h5 := h.1 c a
  have h6 := h.2 c a b (by omega) h1
  have h7 := h.1 b c
  omega
theorem OrdG.eq_trans {α : Type} {f : α → α → Int} (h : OrdG f) {a b c : α} (h1 : f a b = 0) (h2 : f b c = 0) : f a c = 0 := by
 have h3 := h.2 a b c (by omega) (by omega)
 have h4 := h.1 b a
 have h5 := h.1 c b
 have h6 := h.2 c b a (by omega) (by omega)
 have h7 := h.1 a c
 omega
theorem OrdG.comap {α β : Type} {f : α → α → Int} (h : OrdG f) (k : β → α) : OrdG (fun a b => f (k a) (k b)) := ⟨fun _ _ => h.1 _ _, fun _ _ _ => h.2 _ _ _⟩
theorem or2_cases (x y : Int) : (x = 0 ∧ or2 x y = y) ∨ (x ≠ 0 ∧ or2 x y = x) := by
 unfold or2
 split
 ·left; exact ⟨by assumption, rfl⟩
 ·right; exact ⟨by assumption, rfl⟩
theorem OrdG.lex {α : Type} {f g : α → α → Int} (hf : OrdG f) (hg : OrdG g) : OrdG (fun a b => or2 (f a b) (g a b)) := by
 refine ⟨fun a b => ?_, fun a b c h1 h2 => ?_⟩
 ·have h1 := hf.1 a b
  have h2 := hg.1 a b
  rcases or2_cases (f a b) (g a b) with ⟨e1, e2⟩ | ⟨e1, e2⟩ <;> rcases or2_cases (f b a) (g b a) with ⟨e3, e4⟩ | ⟨e3, e4⟩ <;> simp only [e2, e4] <;> omega
 ·simp only at h1 h2 ⊢
  rcases or2_cases (f a b) (g a b) with ⟨e1, e2⟩ | ⟨e1, e2⟩ <;> rcases or2_cases (f b c) (g b c) with ⟨e3, e4⟩ | ⟨e3, e4⟩ <;> rw [e2] at h1 <;> rw [e4] at h2
  ·have h3 := hf.eq_trans e1 e3
   have h4 := hg.2 a b c h1 h2
   rw [h3]; exact h4
  ·have := hf.le_lt (a := a) (b := b) (c := c) (by omega) (by omega)
   rw [or2_ne (by omega)]; omega
  ·have := hf.lt_le (a := a) (b := b) (c := c) (by omega) (by omega)
   rw [or2_ne (by omega)]; omega
  ·have := hf.lt_le (a := a) (b := b) (c := c) (by omega) (by omega)
   rw [or2_ne (by omega)]; omega
def twoKinds {α : Type} (d : α → Bool) (f g : α → α → Int) (a b : α) : Int := if d a then (if d b then f a b else -1) else (if d b then 1 else g a b)
theorem OrdG.kinds {α : Type} {f g : α → α → Int} (hf : OrdG f) (hg : OrdG g) (d : α → Bool) : OrdG (twoKinds d f g) := by
 refine ⟨fun a b => ?_, fun a b c => ?_⟩
 ·unfold twoKinds
  have h1 := hf.1 a b
  have h2 := hg.1 a b
  cases d a <;> cases d b <;> simp <;> assumption
 ·unfold twoKinds
  have h1 := hf.2 a b c
  have h2 := hg.2 a b c
  cases d a <;> cases d b <;> cases d c <;> simp <;> first | assumption | omega
def lexList {α : Type} (f : α → α → Int) : List α → List α → Int
 | [], [] => 0
 | [], _ :: _ => -1
 | _ :: _, [] => 1
 | x :: xs, y :: ys => or2 (f x y) (lexList f xs ys)
theorem OrdG.list {α : Type} {f : α → α → Int} (hf : OrdG f) : OrdG (lexList f) := by
 constructor
 ·intro a
  induction a with
  | nil => intro b; cases b <;> rfl
  | cons x xs ih =>
   intro b
   cases b with
   | nil => rfl
   | cons y ys =>
    have h1 := hf.1 x y
    have h2 := ih ys
    unfold lexList
    rcases or2_cases (f x y) (lexList f xs ys) with ⟨e1, e2⟩ | ⟨e1, e2⟩ <;> rcases or2_cases (f y x) (lexList f ys xs) with ⟨e3, e4⟩ | ⟨e3, e4⟩ <;> rw [e2, e4] <;> omega
 ·intro a
  induction a with
  | nil =>
   intro b c _ _
   cases c <;> simp [lexList]
  | cons x xs ih =>
   intro b c h1 h2
   cases b with
   | nil => simp [lexList] at h1
   | cons y ys =>
    cases c with
    | nil => simp [lexList] at h2
    | cons z zs =>
     unfold lexList at h1 h2 ⊢
     rcases or2_cases (f x y) (lexList f xs ys) with ⟨e1, e2⟩ | ⟨e1, e2⟩ <;> rcases or2_cases (f y z) (lexList f ys zs) with ⟨e3, e4⟩ | ⟨e3, e4⟩ <;> rw [e2] at h1 <;> rw [e4] at h2
     ·have h3 := hf.eq_trans e1 e3
      rw [h3]; exact ih ys zs h1 h2
     ·have := hf.le_lt (a := x) (b := y) (c := z) (by omega) (by omega)
      rw [or2_ne (by omega)]; omega
     ·have := hf.lt_le (a := x) (b := y) (c := z) (by omega) (by omega)
      rw [or2_ne (by omega)]; omega
     ·have := hf.lt_le (a := x) (b := y) (c := z) (by omega) (by omega)
      rw [or2_ne (by omega)]; omega
theorem good_ord : OrdG ord := by
 refine ⟨fun a b => ?_, fun a b c => ?_⟩
 ·unfold ord; split <;> split <;> (try split) <;> omega
 ·unfold ord
  intro h1 h2
  split at h1 <;> split at h2 <;> (try split at h1) <;> (try split at h2) <;> split <;> (try split) <;> omega
def byteOrd (a b : UInt8) : Int := ord (a.toNat : Int) (b.toNat : Int)
theorem good_byte : OrdG byteOrd := good_ord.comap (fun a : UInt8 => (a.toNat : Int))
theorem txt_list (a b : List UInt8) : txt a b = lexList byteOrd a b := by
 induction a generalizing b with
 | nil => cases b <;> rfl
 | cons x xs ih =>
  cases b with
  | nil => rfl
  | cons y ys =>
   rw [txt_cons, lexList, ← ih]
   unfold byteOrd or2 ord
   have g1 := @UInt8.lt_iff_toNat_lt x y
   have g2 := @UInt8.lt_iff_toNat_lt y x
   by_cases h1 : x.toNat < y.toNat
   ·have e : (x.toNat : Int) < y.toNat := by omega
    simp only [if_pos (g1.2 h1), if_pos e]; rfl
   ·have e : ¬ (x.toNat : Int) < y.toNat := by omega
    by_cases h2 : y.toNat < x.toNat
    ·have e2 : (y.toNat : Int) < x.toNat := by omega
     simp only [if_neg (fun h => h1 (g1.1 h)), if_pos (g2.2 h2), if_neg e, if_pos e2]; rfl
    ·have e2 : ¬ (y.toNat : Int) < x.toNat := by omega
     simp only [if_neg (fun h => h1 (g1.1 h)), if_neg (fun h => h2 (g2.1 h)), if_neg e, if_neg e2]; rfl
theorem good_txt : OrdG txt := by
 have : txt = lexList byteOrd := funext fun a => funext fun b => txt_list a b
 rw [this]; exact good_byte.list
theorem good_num : OrdG numCmp :=
 OrdG.lex (good_ord.comap fun l : List UInt8 => ((Lib.trimLeftB l 48).length : Int)) (good_txt.comap fun l : List UInt8 => Lib.trimLeftB l 48)
theorem good_parts : OrdG partsCmp := by
 have : partsCmp = twoKinds Sem4.digits numCmp txt := funext fun a => funext fun b => partsCmp_num a b
 rw [this]; exact good_num.kinds good_txt _
theorem lcmp_list (a b : List (List UInt8)) : lcmp a b = lexList partsCmp a b := by
 induction a generalizing b with
 | nil => cases b <;> rfl
 | cons x xs ih =>
  cases b with
  | nil => rfl
  | cons y ys => rw [lcmp, lexList, ih]
theorem good_lcmp : OrdG lcmp := by
 have : lcmp = lexList partsCmp := funext fun a => funext fun b => lcmp_list a b
 rw [this]; exact good_parts.list
theorem good_zero {α : Type} : OrdG (fun _ _ : α => (0 : Int)) := ⟨fun _ _ => rfl, fun _ _ _ _ _ => Int.le_refl _⟩
theorem good_pre : OrdG cmpPre := by
 have : cmpPre = twoKinds (fun p : List UInt8 => !p.isEmpty) (fun p q => lcmp (Sem4.dots p) (Sem4.dots q)) (fun _ _ => 0) := by
  funext p q
  unfold cmpPre twoKinds
  cases hp : p.isEmpty <;> cases hq : q.isEmpty <;> simp only [hp, hq] <;> rfl
 rw [this]
 exact (good_lcmp.comap Sem4.dots).kinds good_zero _
/-- a version, plainly -/
structure PV where
 a : Int
 b : Int
 c : Int
 p : List UInt8
def PV.cmp (x y : PV) : Int := cmpV x.a x.b x.c x.p y.a y.b y.c y.p
theorem good_ver : OrdG PV.cmp :=
 OrdG.lex (OrdG.lex (good_ord.comap PV.a) (OrdG.lex (good_ord.comap PV.b) (good_ord.comap PV.c))) (good_pre.comap PV.p)
theorem txt_zero {a b : List UInt8} (h : txt a b = 0) : a = b := by
 unfold txt at h
 split at h
 ·cases h
 ·split at h
  ·rename_i e; exact eq_of_beq e
  ·cases h
theorem ord_zero {a b : Int} (h : ord a b = 0) : a = b := by
 unfold ord at h
 split at h
 ·omega
 ·split at h <;> omega
theorem or2_eq_zero {x y : Int} (h : or2 x y = 0) : x = 0 ∧ y = 0 := by
 rcases or2_cases x y with ⟨e1, e2⟩ | ⟨e1, e2⟩ <;> omega
theorem parts_zero {a b : List UInt8} (ha : Sem4.part a = true) (hb : Sem4.part b = true) (h : partsCmp a b = 0) : a = b := by
 rw [partsCmp_num] at h
 have key : ∀ l : List UInt8, Sem4.part l = true → Sem4.digits l = true → l = [48] ∧ Lib.trimLeftB l 48 = [] ∨ l ≠ [48] ∧ Lib.trimLeftB l 48 = l := by
  intro l hp hd
  by_cases h48 : l = [48]
  ·subst h48; left; exact ⟨rfl, rfl⟩
  ·right
   refine ⟨h48, ?_⟩
   unfold Sem4.part at hp
   rw [hd] at hp
   simp [h48] at hp
   cases l with
   | nil => rfl
   | cons c r =>
    unfold Lib.trimLeftB
    rw [List.dropWhile_cons, if_neg]
    simp at hp
    simpa using (show _ ∧ _ from hp).2
 cases hda : Sem4.digits a <;> cases hdb : Sem4.digits b <;> rw [hda, hdb] at h <;> simp at h
 ·exact txt_zero h
 ·unfold numCmp at h
  obtain ⟨h1, h2⟩ := or2_eq_zero h
  have h3 := txt_zero h2
  have ea : a ≠ [] := fun e => absurd hda (by rw [e]; decide)
  have eb : b ≠ [] := fun e => absurd hdb (by rw [e]; decide)
  rcases key a ha hda with ⟨e1, e2⟩ | ⟨e1, e2⟩ <;> rcases key b hb hdb with ⟨e3, e4⟩ | ⟨e3, e4⟩
  ·rw [e1, e3]
  ·rw [e2, e4] at h3; exact absurd h3.symm eb
  ·rw [e2, e4] at h3; exact absurd h3 ea
  ·rw [e2, e4] at h3; exact h3
theorem dots_inj : ∀ {l m : List UInt8}, Sem4.dots l = Sem4.dots m → l = m
 | [], [], _ => rfl
 | [], c :: m, h => by
  rw [Sem4.dots, Sem4.dots] at h
  split at h
  ·simp at h; exact absurd h (Sem4.dots_ne _)
  ·split at h <;> simp at h
 | c :: l, [], h => by
  rw [Sem4.dots, Sem4.dots] at h
  split at h
  ·simp at h; exact absurd h (Sem4.dots_ne _)
  ·split at h <;> simp at h
 | c :: l, d :: m, h => by
  rw [Sem4.dots, Sem4.dots] at h
  by_cases hc : c = 46 <;> by_cases hd : d = 46
  ·rw [if_pos hc, if_pos hd] at h; simp at h; rw [hc, hd, dots_inj h]
  ·rw [if_pos hc, if_neg hd] at h; split at h <;> simp at h
  ·rw [if_neg hc, if_pos hd] at h; split at h <;> simp at h
  ·rw [if_neg hc, if_neg hd] at h
   cases e1 : Sem4.dots l with
   | nil => exact absurd e1 (Sem4.dots_ne l)
   | cons p ps =>
    cases e2 : Sem4.dots m with
    | nil => exact absurd e2 (Sem4.dots_ne m)
    | cons q qs =>
     rw [e1, e2] at h
     simp at h
     rw [h.1.1, dots_inj (l := l) (m := m) (by rw [e1, e2, h.1.2, h.2])]
theorem lcmp_zero : ∀ {xs ys : List (List UInt8)}, xs.all Sem4.part = true → ys.all Sem4.part = true → lcmp xs ys = 0 → xs = ys
 | [], [], _, _, _ => rfl
 | [], _ :: _, _, _, h => by simp [lcmp] at h
 | _ :: _, [], _, _, h => by simp [lcmp] at h
 | x :: xs, y :: ys, hx, hy, h => by
  rw [List.all_cons, Bool.and_eq_true] at hx hy
  rw [lcmp] at h
  obtain ⟨h1, h2⟩ := or2_eq_zero h
  rw [parts_zero hx.1 hy.1 h1, lcmp_zero hx.2 hy.2 h2]
theorem pre_zero {p q : List UInt8} (hp : preOk p = true) (hq : preOk q = true) (h : cmpPre p q = 0) : p = q := by
 unfold cmpPre at h
 unfold preOk at hp hq
 cases e1 : p.isEmpty <;> cases e2 : q.isEmpty <;> rw [e1, e2] at h <;> simp at h
 ·rw [e1] at hp; rw [e2] at hq
  exact dots_inj (lcmp_zero (by simpa using hp) (by simpa using hq) h)
 ·rw [List.isEmpty_iff] at e1 e2; rw [e1, e2]
theorem cmpV_zero {a b c : Int} {p : List UInt8} {a' b' c' : Int} {p' : List UInt8} (h1 : verOk a b c p = true) (h2 : verOk a' b' c' p' = true) (h : cmpV a b c p a' b' c' p' = 0) : a = a' ∧ b = b' ∧ c = c' ∧ p = p' := by
 unfold cmpV cmp3 at h
 obtain ⟨h3, h4⟩ := or2_eq_zero h
 obtain ⟨h5, h6⟩ := or2_eq_zero h3
 obtain ⟨h7, h8⟩ := or2_eq_zero h6
 exact ⟨ord_zero h5, ord_zero h7, ord_zero h8, pre_zero (verOk_bounds h1).2.2.2.2.2.2.2 (verOk_bounds h2).2.2.2.2.2.2.2 h4⟩
end Go
namespace Go
section
variable {α : Type} (f : α → α → Int)
variable {f}
end
end Go
