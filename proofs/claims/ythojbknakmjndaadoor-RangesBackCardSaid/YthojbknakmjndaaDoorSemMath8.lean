/- Versions in plain Lean: the order is one: turned round, through a third one. -/
import Derived.Test.YthojbknakmjndaaDoorSemMath7
namespace Go
/-- a comparison that is turned round rightly, and goes through a third -/
def OrdG {α : Type} (f : α → α → Int) : Prop := (∀ a b, f a b = - f b a) ∧ (∀ a b c, f a b ≤ 0 → f b c ≤ 0 → f a c ≤ 0)
theorem OrdG.self {α : Type} {f : α → α → Int} (h : OrdG f) (a : α) : f a a = 0 := by have := h.1 a a; omega
theorem OrdG.lt_le {α : Type} {f : α → α → Int} (h : OrdG f) {a b c : α} (h1 : f a b < 0) (h2 : f b c ≤ 0) : f a c < 0 := by
  have h3 := h.2 a b c (by omega) h2
  rcases Int.lt_or_eq_of_le h3 with h4 | h4
  · exact h4
  · have h5 := h.1 c a
    have h6 := h.2 b c a h2 (by omega)
    have h7 := h.1 a b
    omega
theorem OrdG.le_lt {α : Type} {f : α → α → Int} (h : OrdG f) {a b c : α} (h1 : f a b ≤ 0) (h2 : f b c < 0) : f a c < 0 := by
  have h3 := h.2 a b c h1 (by omega)
  rcases Int.lt_or_eq_of_le h3 with h4 | h4
  · exact h4
  · have h5 := h.1 c a
    have h6 := h.2 c a b (by omega) h1
    have h7 := h.1 b c
    omega
theorem OrdG.eq_trans {α : Type} {f : α → α → Int} (h : OrdG f) {a b c : α} (h1 : f a b = 0) (h2 : f b c = 0) : f a c = 0 := by
  have h3 := h.2 a b c (by omega) (by omega)
  have h4 := h.1 b a
  have h5 := h.1 c b
  have h6 := h.2 c b a (by omega) (by omega)
  have h7 := h.1 a c
  omega
theorem OrdG.comap {α β : Type} {f : α → α → Int} (h : OrdG f) (k : β → α) : OrdG (fun a b => f (k a) (k b)) := ⟨fun _ _ => h.1 _ _, fun _ _ _ => h.2 _ _ _⟩
theorem or2_cases (x y : Int) : (x = 0 ∧ or2 x y = y) ∨ (x ≠ 0 ∧ or2 x y = x) := by
  unfold or2
  split
  · left; exact ⟨by assumption, rfl⟩
  · right; exact ⟨by assumption, rfl⟩
theorem OrdG.lex {α : Type} {f g : α → α → Int} (hf : OrdG f) (hg : OrdG g) : OrdG (fun a b => or2 (f a b) (g a b)) := by
  refine ⟨fun a b => ?_, fun a b c h1 h2 => ?_⟩
  · have h1 := hf.1 a b
    have h2 := hg.1 a b
    rcases or2_cases (f a b) (g a b) with ⟨e1, e2⟩ | ⟨e1, e2⟩ <;> rcases or2_cases (f b a) (g b a) with ⟨e3, e4⟩ | ⟨e3, e4⟩ <;> simp only [e2, e4] <;> omega
  · simp only at h1 h2 ⊢
    rcases or2_cases (f a b) (g a b) with ⟨e1, e2⟩ | ⟨e1, e2⟩ <;> rcases or2_cases (f b c) (g b c) with ⟨e3, e4⟩ | ⟨e3, e4⟩ <;> rw [e2] at h1 <;> rw [e4] at h2
    · have h3 := hf.eq_trans e1 e3
      have h4 := hg.2 a b c h1 h2
      rw [h3]; exact h4
    · have := hf.le_lt (a := a) (b := b) (c := c) (by omega) (by omega)
      rw [or2_ne (by omega)]; omega
    · have := hf.lt_le (a := a) (b := b) (c := c) (by omega) (by omega)
      rw [or2_ne (by omega)]; omega
    · have := hf.lt_le (a := a) (b := b) (c := c) (by omega) (by omega)
      rw [or2_ne (by omega)]; omega
def twoKinds {α : Type} (d : α → Bool) (f g : α → α → Int) (a b : α) : Int := if d a then (if d b then f a b else -1) else (if d b then 1 else g a b)
theorem OrdG.kinds {α : Type} {f g : α → α → Int} (hf : OrdG f) (hg : OrdG g) (d : α → Bool) : OrdG (twoKinds d f g) := by
  refine ⟨fun a b => ?_, fun a b c => ?_⟩
  · unfold twoKinds
    have h1 := hf.1 a b
    have h2 := hg.1 a b
    cases d a <;> cases d b <;> simp <;> assumption
  · unfold twoKinds
    have h1 := hf.2 a b c
    have h2 := hg.2 a b c
    cases d a <;> cases d b <;> cases d c <;> simp <;> first | assumption | omega
def lexList {α : Type} (f : α → α → Int) : List α → List α → Int
  | [], [] => 0
  | [], _ :: _ => -1
  | _ :: _, [] => 1
  | x :: xs, y :: ys => or2 (f x y) (lexList f xs ys)
theorem OrdG.list {α : Type} {f : α → α → Int} (hf : OrdG f) : OrdG (lexList f) := by
  constructor
  · intro a
    induction a with
    | nil => intro b; cases b <;> rfl
    | cons x xs ih =>
      intro b
      cases b with
      | nil => rfl
      | cons y ys =>
        have h1 := hf.1 x y
        have h2 := ih ys
        unfold lexList
        rcases or2_cases (f x y) (lexList f xs ys) with ⟨e1, e2⟩ | ⟨e1, e2⟩ <;> rcases or2_cases (f y x) (lexList f ys xs) with ⟨e3, e4⟩ | ⟨e3, e4⟩ <;> rw [e2, e4] <;> omega
  · intro a
    induction a with
    | nil =>
      intro b c _ _
      cases c <;> simp [lexList]
    | cons x xs ih =>
      intro b c h1 h2
      cases b with
      | nil => simp [lexList] at h1
      | cons y ys =>
        cases c with
        | nil => simp [lexList] at h2
        | cons z zs =>
          unfold lexList at h1 h2 ⊢
          rcases or2_cases (f x y) (lexList f xs ys) with ⟨e1, e2⟩ | ⟨e1, e2⟩ <;> rcases or2_cases (f y z) (lexList f ys zs) with ⟨e3, e4⟩ | ⟨e3, e4⟩ <;> rw [e2] at h1 <;> rw [e4] at h2
          · have h3 := hf.eq_trans e1 e3
            rw [h3]; exact ih ys zs h1 h2
          · have := hf.le_lt (a := x) (b := y) (c := z) (by omega) (by omega)
            rw [or2_ne (by omega)]; omega
          · have := hf.lt_le (a := x) (b := y) (c := z) (by omega) (by omega)
            rw [or2_ne (by omega)]; omega
          · have := hf.lt_le (a := x) (b := y) (c := z) (by omega) (by omega)
            rw [or2_ne (by omega)]; omega
theorem good_ord : OrdG ord := by
  refine ⟨fun a b => ?_, fun a b c => ?_⟩
  · unfold ord; split <;> split <;> (try split) <;> omega
  · unfold ord
    intro h1 h2
    split at h1 <;> split at h2 <;> (try split at h1) <;> (try split at h2) <;> split <;> (try split) <;> omega
def byteOrd (a b : UInt8) : Int := ord (a.toNat : Int) (b.toNat : Int)
theorem good_byte : OrdG byteOrd := good_ord.comap (fun a : UInt8 => (a.toNat : Int))
theorem txt_list (a b : List UInt8) : txt a b = lexList byteOrd a b := by
  induction a generalizing b with
  | nil => cases b <;> rfl
  | cons x xs ih =>
    cases b with
    | nil => rfl
    | cons y ys =>
      rw [txt_cons, lexList, ← ih]
      unfold byteOrd or2 ord
      have g1 := @UInt8.lt_iff_toNat_lt x y
      have g2 := @UInt8.lt_iff_toNat_lt y x
      by_cases h1 : x.toNat < y.toNat
      · have e : (x.toNat : Int) < y.toNat := by omega
        simp only [if_pos (g1.2 h1), if_pos e]; rfl
      · have e : ¬ (x.toNat : Int) < y.toNat := by omega
        by_cases h2 : y.toNat < x.toNat
        · have e2 : (y.toNat : Int) < x.toNat := by omega
          simp only [if_neg (fun h => h1 (g1.1 h)), if_pos (g2.2 h2), if_neg e, if_pos e2]; rfl
        · have e2 : ¬ (y.toNat : Int) < x.toNat := by omega
          simp only [if_neg (fun h => h1 (g1.1 h)), if_neg (fun h => h2 (g2.1 h)), if_neg e, if_neg e2]; rfl
theorem good_txt : OrdG txt := by
  have : txt = lexList byteOrd := funext fun a => funext fun b => txt_list a b
  rw [this]; exact good_byte.list
theorem good_num : OrdG numCmp :=
  OrdG.lex (good_ord.comap fun l : List UInt8 => ((Lib.trimLeftB l 48).length : Int)) (good_txt.comap fun l : List UInt8 => Lib.trimLeftB l 48)
theorem good_parts : OrdG partsCmp := by
  have : partsCmp = twoKinds Sem4.digits numCmp txt := funext fun a => funext fun b => partsCmp_num a b
  rw [this]; exact good_num.kinds good_txt _
theorem lcmp_list (a b : List (List UInt8)) : lcmp a b = lexList partsCmp a b := by
  induction a generalizing b with
  | nil => cases b <;> rfl
  | cons x xs ih =>
    cases b with
    | nil => rfl
    | cons y ys => rw [lcmp, lexList, ih]
theorem good_lcmp : OrdG lcmp := by
  have : lcmp = lexList partsCmp := funext fun a => funext fun b => lcmp_list a b
  rw [this]; exact good_parts.list
theorem good_zero {α : Type} : OrdG (fun _ _ : α => (0 : Int)) := ⟨fun _ _ => rfl, fun _ _ _ _ _ => Int.le_refl _⟩
theorem good_pre : OrdG cmpPre := by
  have : cmpPre = twoKinds (fun p : List UInt8 => !p.isEmpty) (fun p q => lcmp (Sem4.dots p) (Sem4.dots q)) (fun _ _ => 0) := by
    funext p q
    unfold cmpPre twoKinds
    cases hp : p.isEmpty <;> cases hq : q.isEmpty <;> simp only [hp, hq] <;> rfl
  rw [this]
  exact (good_lcmp.comap Sem4.dots).kinds good_zero _
/-- a version, plainly -/
structure PV where
  a : Int
  b : Int
  c : Int
  p : List UInt8
def PV.cmp (x y : PV) : Int := cmpV x.a x.b x.c x.p y.a y.b y.c y.p
theorem good_ver : OrdG PV.cmp :=
  OrdG.lex (OrdG.lex (good_ord.comap PV.a) (OrdG.lex (good_ord.comap PV.b) (good_ord.comap PV.c))) (good_pre.comap PV.p)
theorem txt_zero {a b : List UInt8} (h : txt a b = 0) : a = b := by
  unfold txt at h
  split at h
  · cases h
  · split at h
    · rename_i e; exact eq_of_beq e
    · cases h
theorem ord_zero {a b : Int} (h : ord a b = 0) : a = b := by
  unfold ord at h
  split at h
  · omega
  · split at h <;> omega
theorem or2_eq_zero {x y : Int} (h : or2 x y = 0) : x = 0 ∧ y = 0 := by
  rcases or2_cases x y with ⟨e1, e2⟩ | ⟨e1, e2⟩ <;> omega
theorem parts_zero {a b : List UInt8} (ha : Sem4.part a = true) (hb : Sem4.part b = true) (h : partsCmp a b = 0) : a = b := by
  rw [partsCmp_num] at h
  have key : ∀ l : List UInt8, Sem4.part l = true → Sem4.digits l = true → l = [48] ∧ Lib.trimLeftB l 48 = [] ∨ l ≠ [48] ∧ Lib.trimLeftB l 48 = l := by
    intro l hp hd
    by_cases h48 : l = [48]
    · subst h48; left; exact ⟨rfl, rfl⟩
    · right
      refine ⟨h48, ?_⟩
      unfold Sem4.part at hp
      rw [hd] at hp
      simp [h48] at hp
      cases l with
      | nil => rfl
      | cons c r =>
        unfold Lib.trimLeftB
        rw [List.dropWhile_cons, if_neg]
        simp at hp
        simpa using (show _ ∧ _ from hp).2
  cases hda : Sem4.digits a <;> cases hdb : Sem4.digits b <;> rw [hda, hdb] at h <;> simp at h
  · exact txt_zero h
  · unfold numCmp at h
    obtain ⟨h1, h2⟩ := or2_eq_zero h
    have h3 := txt_zero h2
    have ea : a ≠ [] := fun e => absurd hda (by rw [e]; decide)
    have eb : b ≠ [] := fun e => absurd hdb (by rw [e]; decide)
    rcases key a ha hda with ⟨e1, e2⟩ | ⟨e1, e2⟩ <;> rcases key b hb hdb with ⟨e3, e4⟩ | ⟨e3, e4⟩
    · rw [e1, e3]
    · rw [e2, e4] at h3; exact absurd h3.symm eb
    · rw [e2, e4] at h3; exact absurd h3 ea
    · rw [e2, e4] at h3; exact h3
theorem dots_inj : ∀ {l m : List UInt8}, Sem4.dots l = Sem4.dots m → l = m
  | [], [], _ => rfl
  | [], c :: m, h => by
    rw [Sem4.dots, Sem4.dots] at h
    split at h
    · simp at h; exact absurd h (Sem4.dots_ne _)
    · split at h <;> simp at h
  | c :: l, [], h => by
    rw [Sem4.dots, Sem4.dots] at h
    split at h
    · simp at h; exact absurd h (Sem4.dots_ne _)
    · split at h <;> simp at h
  | c :: l, d :: m, h => by
    rw [Sem4.dots, Sem4.dots] at h
    by_cases hc : c = 46 <;> by_cases hd : d = 46
    · rw [if_pos hc, if_pos hd] at h; simp at h; rw [hc, hd, dots_inj h]
    · rw [if_pos hc, if_neg hd] at h; split at h <;> simp at h
    · rw [if_neg hc, if_pos hd] at h; split at h <;> simp at h
    · rw [if_neg hc, if_neg hd] at h
      cases e1 : Sem4.dots l with
      | nil => exact absurd e1 (Sem4.dots_ne l)
      | cons p ps =>
        cases e2 : Sem4.dots m with
        | nil => exact absurd e2 (Sem4.dots_ne m)
        | cons q qs =>
          rw [e1, e2] at h
          simp at h
          rw [h.1.1, dots_inj (l := l) (m := m) (by rw [e1, e2, h.1.2, h.2])]
theorem lcmp_zero : ∀ {xs ys : List (List UInt8)}, xs.all Sem4.part = true → ys.all Sem4.part = true → lcmp xs ys = 0 → xs = ys
  | [], [], _, _, _ => rfl
  | [], _ :: _, _, _, h => by simp [lcmp] at h
  | _ :: _, [], _, _, h => by simp [lcmp] at h
  | x :: xs, y :: ys, hx, hy, h => by
    rw [List.all_cons, Bool.and_eq_true] at hx hy
    rw [lcmp] at h
    obtain ⟨h1, h2⟩ := or2_eq_zero h
    rw [parts_zero hx.1 hy.1 h1, lcmp_zero hx.2 hy.2 h2]
theorem pre_zero {p q : List UInt8} (hp : preOk p = true) (hq : preOk q = true) (h : cmpPre p q = 0) : p = q := by
  unfold cmpPre at h
  unfold preOk at hp hq
  cases e1 : p.isEmpty <;> cases e2 : q.isEmpty <;> rw [e1, e2] at h <;> simp at h
  · rw [e1] at hp; rw [e2] at hq
    exact dots_inj (lcmp_zero (by simpa using hp) (by simpa using hq) h)
  · rw [List.isEmpty_iff] at e1 e2; rw [e1, e2]
theorem cmpV_zero {a b c : Int} {p : List UInt8} {a' b' c' : Int} {p' : List UInt8} (h1 : verOk a b c p = true) (h2 : verOk a' b' c' p' = true) (h : cmpV a b c p a' b' c' p' = 0) : a = a' ∧ b = b' ∧ c = c' ∧ p = p' := by
  unfold cmpV cmp3 at h
  obtain ⟨h3, h4⟩ := or2_eq_zero h
  obtain ⟨h5, h6⟩ := or2_eq_zero h3
  obtain ⟨h7, h8⟩ := or2_eq_zero h6
  exact ⟨ord_zero h5, ord_zero h7, ord_zero h8, pre_zero (verOk_bounds h1).2.2.2.2.2.2.2 (verOk_bounds h2).2.2.2.2.2.2.2 h4⟩
end Go
