/- Versions in plain Lean: the library's words against ours; the order of parts. -/
import Derived.Test.YthojbknakmjndaaDoorSemMath2
import Derived.Test.YthojbknakmjndaaDoorBase
import Derived.Lib.SplitLaws
import Derived.Lib.SlTrimSet
import Derived.Lib.ItoaNum
import Derived.Lib.AtoiAll
import Derived.Lib.IndexBytes
import Derived.Lib.Bytealg
namespace Go
def ord (a b : Int) : Int := if a < b then -1 else if b < a then 1 else 0
def txt (a b : List UInt8) : Int := if Op.bytesLess a b then -1 else if a == b then 0 else 1
theorem txt_nil : txt [] [] = 0 := rfl
theorem txt_nil_cons (b : UInt8) (y : List UInt8) : txt [] (b :: y) = -1 := rfl
theorem txt_cons_nil (a : UInt8) (x : List UInt8) : txt (a :: x) [] = 1 := rfl
theorem txt_cons (a b : UInt8) (x y : List UInt8) : txt (a :: x) (b :: y) = if a < b then -1 else if b < a then 1 else txt x y := by
  unfold txt
  rw [Op.bytesLess]
  by_cases h1 : a < b
  · simp [h1]
  · by_cases h2 : b < a
    · have : a ≠ b := by rintro rfl; exact h1 h2
      simp [h1, h2, this]
    · have : a = b := by
        apply UInt8.toNat_inj.1
        rw [UInt8.lt_iff_toNat_lt] at h1 h2
        omega
      subst this
      simp [h1]
theorem compare_txt : ∀ a b : List UInt8, Lib.compareBytes a b = txt a b
  | [], [] => rfl
  | [], _ :: _ => rfl
  | _ :: _, [] => rfl
  | a :: x, b :: y => by rw [txt_cons, Lib.compareBytes, compare_txt x y]
theorem txt_app (r a b : List UInt8) : txt (r ++ a) (r ++ b) = txt a b := by
  induction r with
  | nil => rfl
  | cons c r ih => rw [List.cons_append, List.cons_append, txt_cons, if_neg (by rw [UInt8.lt_iff_toNat_lt]; omega), if_neg (by rw [UInt8.lt_iff_toNat_lt]; omega), ih]
theorem decDigits_dig10 (n : Nat) : Lib.decDigits n = dig10 n := by
  induction n using Nat.strongRecOn with
  | ind n ih =>
    by_cases h : n < 10
    · rw [Lib.decDigits_one h, dig10_lt n h]
    · rw [Lib.decDigits, dif_neg h, dig10_ge n (by omega), ih _ (by omega)]
theorem itoa_dig10 (n : Nat) : Lib.itoa (n : Int) = dig10 n := by
  unfold Lib.itoa
  rw [if_neg (by omega), Int.toNat_natCast, decDigits_dig10]
theorem dropWhile_nil {p : UInt8 → Bool} : ∀ {l : List UInt8}, l.dropWhile p = [] → l.all p = true
  | [], _ => rfl
  | a :: l, h => by
    rw [List.dropWhile_cons] at h
    split at h
    · rename_i ha; rw [List.all_cons, ha, dropWhile_nil h]; rfl
    · cases h
theorem dropWhile_all {p : UInt8 → Bool} : ∀ {l : List UInt8}, l.all p = true → l.dropWhile p = []
  | [], _ => rfl
  | a :: l, h => by
    rw [List.all_cons, Bool.and_eq_true] at h
    rw [List.dropWhile_cons, if_pos h.1, dropWhile_all h.2]
theorem dropWhile_head {p : UInt8 → Bool} : ∀ {l : List UInt8} {a : UInt8} {r : List UInt8}, l.dropWhile p = a :: r → p a = false
  | [], _, _, h => by cases h
  | b :: l, a, r, h => by
    rw [List.dropWhile_cons] at h
    split at h
    · exact dropWhile_head h
    · rename_i hb; injection h with h1 _; subst h1; simpa using hb
theorem digs_isDig : ∀ c : UInt8, ([48, 49, 50, 51, 52, 53, 54, 55, 56, 57] : List UInt8).contains c = Sem4.isDig c := by
  have h : ∀ n : Fin 256, ([48, 49, 50, 51, 52, 53, 54, 55, 56, 57] : List UInt8).contains (UInt8.ofNat n.val) = Sem4.isDig (UInt8.ofNat n.val) := by decide +kernel
  intro c
  have := h ⟨c.toNat, c.toNat_lt⟩
  simpa using this
theorem trim_digits (l : List UInt8) : (Lib.trimS l [48, 49, 50, 51, 52, 53, 54, 55, 56, 57]).isEmpty = l.all Sem4.isDig := by
  have hf : (([48, 49, 50, 51, 52, 53, 54, 55, 56, 57] : List UInt8).contains ·) = Sem4.isDig := funext digs_isDig
  unfold Lib.trimS Lib.trimLeftS Lib.trimRightS
  rw [hf, Bool.eq_iff_iff, List.isEmpty_iff]
  constructor
  · intro h
    have h1 := dropWhile_nil h
    rw [List.all_reverse] at h1
    cases hd : l.reverse.dropWhile Sem4.isDig with
    | nil => have := dropWhile_nil hd; rwa [List.all_reverse] at this
    | cons a r =>
      rw [hd, List.all_cons, dropWhile_head hd] at h1; cases h1
  · intro h
    rw [dropWhile_all (l := l.reverse) (by rwa [List.all_reverse])]; rfl
theorem splitK_dots (n : Nat) : ∀ (l : List UInt8), l.length ≤ n → Lib.splitK [46] 0 (l.count 46) l = Sem4.dots l := by
  induction n with
  | zero => intro l h; obtain rfl : l = [] := List.eq_nil_of_length_eq_zero (by omega); rfl
  | succ n ih =>
    intro l hl
    cases hc : l.count 46 with
    | zero =>
      have hn : ∀ c ∈ l, c ≠ 46 := by
        rintro c hc' rfl
        have := List.count_pos_iff.2 hc'
        omega
      rw [dots_dig l hn]; rfl
    | succ k =>
      have hm : (46 : UInt8) ∈ l := List.count_pos_iff.1 (by omega)
      obtain ⟨x, y, rfl, hx⟩ : ∃ x y, l = x ++ 46 :: y ∧ ∀ c ∈ x, c ≠ 46 := by
        clear hl hc
        induction l with
        | nil => cases hm
        | cons a l ih =>
          by_cases ha : a = 46
          · subst ha; exact ⟨[], l, rfl, by simp⟩
          · obtain ⟨x, y, h1, h2⟩ := ih (by rcases List.mem_cons.1 hm with h | h; exact absurd h.symm ha; exact h)
            refine ⟨a :: x, y, by rw [h1]; rfl, fun c hc => ?_⟩
            rcases List.mem_cons.1 hc with rfl | h
            · exact ha
            · exact h2 c h
      have hx0 : x.count 46 = 0 := List.count_eq_zero.2 (fun h => hx _ h rfl)
      rw [List.count_append, hx0, List.count_cons_self] at hc
      have hi : Lib.index (x ++ 46 :: y) [46] = (x.length : Int) := by
        rw [Lib.index_one]
        clear hl hc hm hx0
        induction x with
        | nil => rfl
        | cons a x ih =>
          have := ih (fun c hc => hx c (by simp [hc]))
          have ha := hx a (by simp)
          have hb : (a == 46) = false := by simpa using ha
          rw [List.cons_append, Lib.indexByte, hb, this]
          have : ((x.length : Int) == -1) = false := by simp
          rw [this]
          simp
      rw [dots_app x y hx]
      unfold Lib.splitK
      have : ((x.length : Int) == -1) = false := by simp
      rw [hi, this]
      simp only [Int.toNat_natCast, Nat.add_zero, List.length_singleton, Bool.false_eq_true, if_false]
      rw [List.take_left', show (x ++ 46 :: y).drop (x.length + 1) = y by simp]
      · have hk : k = y.count 46 := by omega
        rw [hk, ih y (by simp at hl; omega)]
      · rfl
theorem split_dots (s : ByteArray) : (Lib.splitB ⟨#[46]⟩ 0 (Lib.countB s ⟨#[46]⟩) s) = (Sem4.dots s.data.toList).map S := by
  have h := Lib.splitB_data ⟨#[46]⟩ 0 (Lib.countB s ⟨#[46]⟩) s
  have hc : Lib.countB s ⟨#[46]⟩ = s.data.toList.count 46 := by
    show Lib.count _ _ = _
    exact Lib.count_one 46 _
  rw [hc] at h ⊢
  rw [show (⟨#[46]⟩ : ByteArray).data.toList = [46] from rfl, splitK_dots _ _ (Nat.le_refl _)] at h
  have := congrArg (List.map S) h
  rw [List.map_map] at this
  rw [← this]
  conv => lhs; rw [← List.map_id (Lib.splitB _ _ _ _)]
  rfl
theorem count_dots (l : List UInt8) : (Sem4.dots l).length = l.count 46 + 1 := by
  induction l with
  | nil => rfl
  | cons c l ih =>
    by_cases h : c = 46
    · subst h; rw [Sem4.dots, if_pos rfl, List.count_cons_self, List.length_cons, ih]
    · rw [Sem4.dots, if_neg h, List.count_cons_of_ne h]
      split
      · rename_i hd; exact absurd hd (Sem4.dots_ne l)
      · rename_i hd; rw [hd] at ih; simpa using ih
theorem countB_dots (s : ByteArray) : Lib.countB s ⟨#[46]⟩ + 1 = (Sem4.dots s.data.toList).length := by
  rw [count_dots]
  have : Lib.countB s ⟨#[46]⟩ = s.data.toList.count 46 := by
    show Lib.count _ _ = _
    exact Lib.count_one 46 _
  rw [this]
/-- strings.Cut at the '-' -/
theorem cut_dash (l : List UInt8) : Lib.cut l [45] = (coreOf l, preOf l, l.any (fun c => !notDash c)) := by
  unfold coreOf preOf Lib.cut
  induction l with
  | nil => rfl
  | cons a l ih =>
    by_cases ha : a = 45
    · subst ha; rfl
    · have hn : notDash a = true := by simp [notDash, ha]
      have hb : (a == 45) = false := by simpa using ha
      rw [Lib.index_one] at ih ⊢
      rw [Lib.indexByte, hb]
      have hg := Lib.indexByte_ge l 45
      rw [List.takeWhile_cons, List.dropWhile_cons, List.any_cons, hn]
      by_cases hi : Lib.indexByte l 45 = -1
      · rw [hi] at ih ⊢
        simp at ih ⊢
        exact ⟨ih.1, ih.2.1, ih.2.2⟩
      · have h0 : 0 ≤ Lib.indexByte l 45 := by omega
        have h1 : (Lib.indexByte l 45 == -1) = false := by simpa using hi
        rw [h1]
        rw [if_pos h0] at ih
        simp only [Bool.false_eq_true, if_false]
        rw [if_pos (by omega)]
        have e : (Lib.indexByte l 45 + 1).toNat = (Lib.indexByte l 45).toNat + 1 := by omega
        rw [e]
        simp at ih ⊢
        refine ⟨ih.1, ?_, ih.2.2⟩
        exact ih.2.1
end Go
