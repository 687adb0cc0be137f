/- Keys: the program's: walks. -/
import Derived.Test.YtlhpgkaffbgkgaaGreatDoorRec3
import Derived.Test.YtlhpgkaffbgkgaaGreatDoorCmdMath3
namespace Go
open Go.RowKit
/-- a name's key, or the error -/
def ownKey (n : List UInt8) : List UInt8 × Int := if nameOk n then (ownL n, 0) else ([], 220)
def relKey (n : List UInt8) (v : V4) : List UInt8 × Int := if v.ok && nameOk n then (relL n v.show, 0) else ([], 220)
theorem pre_two {a b : UInt8} {l : List UInt8} : Lib.hasPrefix l [a, b] = true ↔ ∃ r, l = a :: b :: r := by
  unfold Lib.hasPrefix
  rw [List.isPrefixOf_iff_prefix]
  constructor
  · rintro ⟨t, h⟩; exact ⟨t, h.symm⟩
  · rintro ⟨t, rfl⟩; exact ⟨t, rfl⟩
theorem trim_two {a b : UInt8} {r : List UInt8} : Lib.trimPrefix (a :: b :: r) [a, b] = r := by
  unfold Lib.trimPrefix
  rw [if_pos (pre_two.2 ⟨r, rfl⟩)]; rfl
theorem trim_not {p l : List UInt8} (h : Lib.hasPrefix l p = false) : Lib.trimPrefix l p = l := by
  unfold Lib.trimPrefix
  rw [if_neg (by rw [h]; decide)]
theorem headAt_app {c : UInt8} : ∀ {n t : List UInt8}, (∀ x ∈ n, x ≠ c) → headAt c (n ++ c :: t) = n ∧ tailAt c (n ++ c :: t) = t ∧ hasAt c (n ++ c :: t) = true
  | [], t, _ => by simp [headAt, tailAt, hasAt, notC]
  | a :: n, t, h => by
    obtain ⟨h1, h2, h3⟩ := headAt_app (n := n) (t := t) (fun x hx => h x (List.mem_cons_of_mem _ hx))
    have ha : notC c a = true := by have := h a List.mem_cons_self; simpa [notC] using this
    simp only [headAt, tailAt, hasAt] at h1 h2 h3 ⊢
    rw [List.cons_append, List.takeWhile_cons_of_pos ha, List.dropWhile_cons_of_pos ha, List.any_cons, h1, h2, h3]
    exact ⟨rfl, rfl, by simp⟩
theorem at_split {c : UInt8} {l : List UInt8} (h : hasAt c l = true) : l = headAt c l ++ c :: tailAt c l := by
  induction l with
  | nil => cases h
  | cons a l ih =>
    by_cases ha : a = c
    · subst ha; simp [headAt, tailAt, notC]
    · have hn : notC c a = true := by simpa [notC] using ha
      unfold hasAt at h
      rw [List.any_cons, hn] at h
      have := ih (by unfold hasAt; simpa using h)
      unfold headAt tailAt at this ⊢
      rw [List.takeWhile_cons_of_pos hn, List.dropWhile_cons_of_pos hn, List.cons_append, ← this]
theorem keyIs_own {l n : List UInt8} (h : l = ownL n) (hn : nameOk n = true) : KeyIs l n V4.zero false 0 := .inl ⟨rfl, rfl, rfl, hn, h⟩
theorem keyIs_rel {l n t : List UInt8} {v : V4} (h : l = relL n t) (hn : nameOk n = true) (hv : v.IsShow t) : KeyIs l n v true 0 := .inr (.inl ⟨rfl, rfl, hn, t, hv, h⟩)
theorem keyIs_no {l : List UInt8} (h1 : ∀ m, nameOk m = true → l ≠ ownL m) (h2 : ∀ m x t, nameOk m = true → V4.IsShow x t → l ≠ relL m t) : KeyIs l [] V4.zero false 220 := .inr (.inr ⟨rfl, rfl, rfl, rfl, h1, h2⟩)
/-- bytes that do not begin with o/ and the name are no owner's key -/
theorem not_own {l : List UInt8} (h : Lib.hasPrefix l [111, 47] = false ∨ nameOk (Lib.trimPrefix l [111, 47]) = false) : ∀ m, nameOk m = true → l ≠ ownL m := by
  rintro m hm rfl
  rcases h with h | h
  · rw [show Lib.hasPrefix (ownL m) [111, 47] = true from pre_two.2 ⟨m, rfl⟩] at h; cases h
  · rw [show Lib.trimPrefix (ownL m) [111, 47] = m from trim_two, hm] at h; cases h
theorem not_rel {l : List UInt8} (h : Lib.hasPrefix l [114, 47] = false ∨ hasAt 47 (Lib.trimPrefix l [114, 47]) = false ∨ (∀ a b c p, ¬ IsShow a b c p (tailAt 47 (Lib.trimPrefix l [114, 47]))) ∨ nameOk (headAt 47 (Lib.trimPrefix l [114, 47])) = false) :
    ∀ m x t, nameOk m = true → V4.IsShow x t → l ≠ relL m t := by
  rintro m x t hm hv rfl
  have e : Lib.trimPrefix (relL m t) [114, 47] = m ++ 47 :: t := trim_two
  obtain ⟨h1, h2, h3⟩ := headAt_app (t := t) (name_slash hm)
  rw [e, h1, h2, h3] at h
  rcases h with h | h | h | h
  · rw [show Lib.hasPrefix (relL m t) [114, 47] = true from pre_two.2 ⟨_, rfl⟩] at h; cases h
  · cases h
  · exact h x.a x.b x.c x.p.data.toList ⟨hv.1, hv.2⟩
  · rw [hm] at h; cases h
theorem is_rel {l : List UInt8} (h1 : Lib.hasPrefix l [114, 47] = true) (h2 : hasAt 47 (Lib.trimPrefix l [114, 47]) = true) : l = relL (headAt 47 (Lib.trimPrefix l [114, 47])) (tailAt 47 (Lib.trimPrefix l [114, 47])) := by
  obtain ⟨r, rfl⟩ := pre_two.1 h1
  rw [trim_two] at h2 ⊢
  unfold relL
  rw [← at_split h2]
theorem is_own {l : List UInt8} (h1 : Lib.hasPrefix l [111, 47] = true) : l = ownL (Lib.trimPrefix l [111, 47]) := by
  obtain ⟨r, rfl⟩ := pre_two.1 h1
  rw [trim_two]; rfl
end Go
namespace Go.Proofs.YtlhpgkaffbgkgaaGreatDoor
open Go.RowKit
theorem cutP_any (a b : UInt8) (s : ByteArray) (w : World) :
    Calls Tryz.prog 31 #[.string s, .string ⟨#[a, b]⟩] w fun e w' => e = .returned (.tuple #[.string (S (Lib.trimPrefix s.data.toList [a, b])), .bool (Lib.hasPrefix s.data.toList [a, b])]) ∧ w = w' :=
  (Tryz.strings_CutPrefix s ⟨#[a, b]⟩ w).mono fun _ _ ⟨he, hw⟩ => ⟨by rw [he]; rfl, hw.symm⟩
theorem cutC_any (c : UInt8) (s : ByteArray) (w : World) (hE : Env w) (hs : s.size < 4294967281) :
    Calls Tryz.prog 32 #[.string s, .string ⟨#[c]⟩] w fun e w' => e = .returned (.tuple #[.string (S (headAt c s.data.toList)), .string (S (tailAt c s.data.toList)), .bool (hasAt c s.data.toList)]) ∧ Below w.heap.size w w' := by
  obtain ⟨m, hm⟩ := hE.1
  refine (Tryz.strings_Cut s ⟨#[c]⟩ m w hs hm).mono fun e w' ⟨he, n, hw⟩ => ⟨?_, ?_⟩
  · rw [he, show (⟨#[c]⟩ : ByteArray).data.toList = [c] from rfl, cut_at]; rfl
  · rw [hw]; exact below_drewN (Below.refl _ _) n
set_option maxRecDepth 100000 in
theorem ownerKey_any (n : ByteArray) (w : World) : Calls Tryz.prog 13 #[.string n] w fun e w' => e = .returned (.tuple #[.string (S (ownKey n.data.toList).1), .int .i64 (ownKey n.data.toList).2]) ∧ w' = w := by
  obtain ⟨r, hr⟩ : ∃ r, nameOk n.data.toList = r := ⟨_, rfl⟩
  have HC := Lib.hid (fun w => lname_as n r hr w)
  have HK : Hid (ownKey n.data.toList = if r then (ownL n.data.toList, 0) else ([], 220)) := by show _ = _; unfold ownKey; rw [hr]
  have r1 : r = true → ∀ W, (Op.stringOp .add ⟨#[111, 47]⟩ n).run Tryz.prog W = .ok (.string (⟨#[111, 47]⟩ ++ n)) W := fun h W => run_string_add_sum W _ _ (by
    subst h
    have := (name_len hr).2.1
    rw [← Lib.size_eq] at this
    rw [show (⟨#[111, 47]⟩ : ByteArray).size = 2 from rfl]; omega)
  have HX : Hid ((⟨#[111, 47]⟩ : ByteArray) ++ n = S (ownL n.data.toList)) := by show _ = _; apply ByteArray.ext; apply Array.toList_inj.1; simp [S, ownL]
  clear hr
  cases r
  · clear r1
    go_enter Tryz.func13, Tryz.ntmps13
    go_wp2_with fail
    refine (HC.out _).mono ?_
    rintro e w1 ⟨rfl, rfl⟩
    go_wp2_with fail
    go_ret2
    exact ⟨by rw [HK.out]; rfl, rfl⟩
  · have r1 := r1 rfl
    go_enter Tryz.func13, Tryz.ntmps13
    go_wp2_with fail
    refine (HC.out _).mono ?_
    rintro e w1 ⟨rfl, rfl⟩
    go_wp2_with fail
    go_ret2
    exact ⟨by rw [HK.out, HX.out]; rfl, rfl⟩
def relBytes (n t : ByteArray) : ByteArray := ⟨#[114, 47]⟩ ++ n ++ ⟨#[47]⟩ ++ t
theorem relBytes_eq (n t : ByteArray) : relBytes n t = S (relL n.data.toList t.data.toList) := by
  apply ByteArray.ext; apply Array.toList_inj.1; simp [relBytes, S, relL]
set_option maxRecDepth 100000 in
set_option maxHeartbeats 1000000 in
theorem releaseKey_any (n : ByteArray) (v : V4) (w : World) (hE : Env w) (hs : v.p.size ≤ 9223372036854775807) :
    Calls Tryz.prog 15 #[.string n, .agg #[.int .i64 v.a, .int .i64 v.b, .int .i64 v.c, .string v.p]] w fun e w' => e = .returned (.tuple #[.string (S (relKey n.data.toList v).1), .int .i64 (relKey n.data.toList v).2]) ∧ Below w.heap.size w w' := by
  obtain ⟨a, b, c, p⟩ := v
  have HE := Lib.hid hE
  have hW := (Below.refl w.heap.size w).alloc (Nat.le_refl _) (.cells #[.int .i64 a, .int .i64 b, .int .i64 c, .string p] 23)
  clear hE
  simp only at hs ⊢
  rcases shows_cases ⟨a, b, c, p⟩ with ⟨hsh, hok⟩ | ⟨hsh, hok⟩
  rotate_left
  · have HN : Hid (relKey n.data.toList ⟨a, b, c, p⟩ = ([], 220)) := by show _ = _; unfold relKey; rw [hok]; rfl
    have HS := Lib.hid hsh
    clear hsh hok
    go_enter Tryz.func15, Tryz.ntmps15
    go_wp2_with fail
    refine (showV ⟨a, b, c, p⟩ _ _ HS.out _ (HE.out.below hW) hs).mono ?_
    rintro e w1 ⟨rfl, hb1⟩
    go_wp2_with fail
    go_ret2
    exact ⟨by rw [HN.out]; rfl, below_then hW hb1⟩
  have hlen := show_le hok
  obtain ⟨t, ht⟩ : ∃ t, S (V4.show ⟨a, b, c, p⟩) = t := ⟨_, rfl⟩
  have hts : t.size ≤ 45 := by rw [← ht, S_size]; exact hlen
  rw [ht] at hsh
  have HS := Lib.hid hsh
  obtain ⟨r, hr⟩ : ∃ r, nameOk n.data.toList = r := ⟨_, rfl⟩
  have HC := Lib.hid (fun w => lname_as n r hr w)
  have HK : Hid (relKey n.data.toList ⟨a, b, c, p⟩ = if r then (relL n.data.toList t.data.toList, 0) else ([], 220)) := by
    show _ = _
    unfold relKey
    rw [hok, hr, ← ht]; rfl
  have hn : r = true → n.size ≤ 24 := fun h => by subst h; rw [Lib.size_eq]; exact (name_len hr).2.1
  clear hr hlen ht hsh hok
  cases r
  · clear hn
    go_enter Tryz.func15, Tryz.ntmps15
    go_wp2_with fail
    refine (showV ⟨a, b, c, p⟩ _ _ HS.out _ (HE.out.below hW) hs).mono ?_
    rintro e w1 ⟨rfl, hb1⟩
    go_wp2_with fail
    refine (HC.out _).mono ?_
    rintro e w2 ⟨rfl, rfl⟩
    go_wp2_with fail
    go_ret2
    exact ⟨by rw [HK.out]; rfl, below_then hW hb1⟩
  · have hn := hn rfl
    have r1 : ∀ W, (Op.stringOp .add ⟨#[114, 47]⟩ n).run Tryz.prog W = .ok (.string (⟨#[114, 47]⟩ ++ n)) W := fun W => run_string_add_sum W _ _ (by rw [show (⟨#[114, 47]⟩ : ByteArray).size = 2 from rfl]; omega)
    have r2 : ∀ W, (Op.stringOp .add (⟨#[114, 47]⟩ ++ n) ⟨#[47]⟩).run Tryz.prog W = .ok (.string (⟨#[114, 47]⟩ ++ n ++ ⟨#[47]⟩)) W := fun W => run_string_add_sum W _ _ (by rw [ByteArray.size_append, show (⟨#[114, 47]⟩ : ByteArray).size = 2 from rfl, show (⟨#[47]⟩ : ByteArray).size = 1 from rfl]; omega)
    have r3 : ∀ W, (Op.stringOp .add (⟨#[114, 47]⟩ ++ n ++ ⟨#[47]⟩) t).run Tryz.prog W = .ok (.string (⟨#[114, 47]⟩ ++ n ++ ⟨#[47]⟩ ++ t)) W := fun W => run_string_add_sum W _ _ (by rw [ByteArray.size_append, ByteArray.size_append, show (⟨#[114, 47]⟩ : ByteArray).size = 2 from rfl, show (⟨#[47]⟩ : ByteArray).size = 1 from rfl]; omega)
    go_enter Tryz.func15, Tryz.ntmps15
    go_wp2_with fail
    refine (showV ⟨a, b, c, p⟩ _ _ HS.out _ (HE.out.below hW) hs).mono ?_
    rintro e w1 ⟨rfl, hb1⟩
    go_wp2_with fail
    refine (HC.out _).mono ?_
    rintro e w2 ⟨rfl, rfl⟩
    go_wp2_with fail
    go_ret2
    exact ⟨by rw [HK.out]; show Ending.returned (.tuple #[.string (relBytes n t), _]) = _; rw [relBytes_eq]; rfl, below_then hW hb1⟩
end Go.Proofs.YtlhpgkaffbgkgaaGreatDoor
