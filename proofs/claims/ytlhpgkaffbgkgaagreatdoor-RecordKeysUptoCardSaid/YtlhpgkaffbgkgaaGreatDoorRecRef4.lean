/- The reference's keys: walks. -/
import Derived.Test.YtlhpgkaffbgkgaaGreatDoorRecRef3
import Derived.Test.YtlhpgkaffbgkgaaGreatDoorRec5
namespace Go
open Go.RowKit
theorem relL_at {l m t : List UInt8} (h : l = relL m t) : (l.take (m.length + 2)).drop 2 = m ∧ l.drop (m.length + 2 + 1) = t ∧ m.length + 2 < l.length := by
  subst h
  unfold relL
  refine ⟨by simp, ?_, by simp⟩
  have : (114 :: 47 :: (m ++ 47 :: t)).drop (m.length + 2 + 1) = (m ++ 47 :: t).drop (m.length + 1) := rfl
  rw [this, show m ++ 47 :: t = (m ++ [47]) ++ t by simp]
  exact List.drop_left' (by simp)
/-- no key ends ahead of i -/
def NoTill (l : List UInt8) (i : Nat) : Prop := ∀ m x t, nameOk m = true → V4.IsShow x t → l = relL m t → i ≤ m.length + 2
theorem noTill_start (l : List UInt8) : NoTill l 2 := fun m _ _ _ _ _ => by omega
theorem noTill_step {l : List UInt8} {i : Nat} (h : NoTill l i) (hn : ∀ x, nameOk ((l.take i).drop 2) = true → V4.IsShow x (l.drop (i + 1)) → l = relL ((l.take i).drop 2) (l.drop (i + 1)) → False) : NoTill l (i + 1) := by
  intro m x t hm hx he
  have h1 := h m x t hm hx he
  rcases Nat.lt_or_ge i (m.length + 2) with h2 | h2
  · omega
  · have hi : i = m.length + 2 := by omega
    obtain ⟨e1, e2, _⟩ := relL_at he
    rw [← hi] at e1 e2
    exact (hn x (by rw [e1]; exact hm) (by rw [e2]; exact hx) (by rw [e1, e2]; exact he)).elim
theorem noTill_end {l : List UInt8} (h : NoTill l l.length) : ∀ m x t, nameOk m = true → V4.IsShow x t → l ≠ relL m t := by
  intro m x t hm hx he
  have := h m x t hm hx he
  have := (relL_at he).2.2
  omega
theorem keyIs_len {l : List UInt8} (h : l.length < 2 ∨ 100 < l.length) : KeyIs l [] V4.zero false 220 := by
  refine keyIs_no (fun m hm he => ?_) (fun m x t hm hx he => ?_)
  · have h1 := ownL_len hm
    rw [he] at h
    unfold ownL at h h1
    simp only [List.length_cons] at h h1
    omega
  · have h1 := relL_len hm hx
    rw [he] at h
    unfold relL at h h1
    simp only [List.length_cons] at h h1
    omega
theorem not_own2 {l : List UInt8} (h : ¬ (nameOk (l.drop 2) = true ∧ ownL (l.drop 2) = l)) : ∀ m, nameOk m = true → l ≠ ownL m := by
  rintro m hm rfl
  exact h ⟨hm, rfl⟩
end Go
namespace Go.Proofs.YtlhpgkaffbgkgaaGreatDoor
open Go.RowKit
set_option maxRecDepth 100000 in
theorem rownerKey_any (n : ByteArray) (w : World) : Calls Tryz.prog 14 #[.string n] w fun e w' => e = .returned (.tuple #[.string (S (ownKey n.data.toList).1), .int .i64 (ownKey n.data.toList).2]) ∧ Below w.heap.size w w' := by
  obtain ⟨r, hr⟩ : ∃ r, nameOk n.data.toList = r := ⟨_, rfl⟩
  have HC := Lib.hid (fun w => rname_as n r hr w)
  have HK : Hid (ownKey n.data.toList = if r then (ownL n.data.toList, 0) else ([], 220)) := by show _ = _; unfold ownKey; rw [hr]
  have r1 : r = true → ∀ W, (Op.stringOp .add ⟨#[111, 47]⟩ n).run Tryz.prog W = .ok (.string (⟨#[111, 47]⟩ ++ n)) W := fun h W => run_string_add_sum W _ _ (by
    subst h
    have := (name_len hr).2.1
    rw [← Lib.size_eq] at this
    rw [show (⟨#[111, 47]⟩ : ByteArray).size = 2 from rfl]; omega)
  have HX : Hid ((⟨#[111, 47]⟩ : ByteArray) ++ n = S (ownL n.data.toList)) := by show _ = _; apply ByteArray.ext; apply Array.toList_inj.1; simp [S, ownL]
  clear hr
  cases r
  · clear r1
    go_enter Tryz.func14, Tryz.ntmps14
    go_wp2_with fail
    refine (HC.out _).mono ?_
    rintro e w1 ⟨rfl, hb1⟩
    go_wp2_with fail
    go_ret2
    exact ⟨by rw [HK.out]; rfl, hb1⟩
  · have r1 := r1 rfl
    go_enter Tryz.func14, Tryz.ntmps14
    go_wp2_with fail
    refine (HC.out _).mono ?_
    rintro e w1 ⟨rfl, hb1⟩
    go_wp2_with fail
    go_ret2
    exact ⟨by rw [HK.out, HX.out]; rfl, hb1⟩
set_option maxRecDepth 100000 in
set_option maxHeartbeats 1000000 in
theorem rreleaseKey_any (n : ByteArray) (v : V4) (w : World) (hs : v.p.size ≤ 9223372036854775807) :
    Calls Tryz.prog 16 #[.string n, .agg #[.int .i64 v.a, .int .i64 v.b, .int .i64 v.c, .string v.p]] w fun e w' => e = .returned (.tuple #[.string (S (relKey n.data.toList v).1), .int .i64 (relKey n.data.toList v).2]) ∧ Below w.heap.size w w' := by
  obtain ⟨a, b, c, p⟩ := v
  have hW := (Below.refl w.heap.size w).alloc (Nat.le_refl _) (.cells #[.int .i64 a, .int .i64 b, .int .i64 c, .string p] 23)
  simp only at hs ⊢
  rcases shows_cases ⟨a, b, c, p⟩ with ⟨hsh, hok⟩ | ⟨hsh, hok⟩
  rotate_left
  · have HN : Hid (relKey n.data.toList ⟨a, b, c, p⟩ = ([], 220)) := by show _ = _; unfold relKey; rw [hok]; rfl
    have HS := Lib.hid hsh
    clear hsh hok
    go_enter Tryz.func16, Tryz.ntmps16
    go_wp2_with fail
    refine (rshowV ⟨a, b, c, p⟩ _ _ HS.out _ hs).mono ?_
    rintro e w1 ⟨rfl, hb1⟩
    go_wp2_with fail
    go_ret2
    exact ⟨by rw [HN.out]; rfl, below_then hW hb1⟩
  have hlen := show_le hok
  obtain ⟨t, ht⟩ : ∃ t, S (V4.show ⟨a, b, c, p⟩) = t := ⟨_, rfl⟩
  have hts : t.size ≤ 45 := by rw [← ht, S_size]; exact hlen
  rw [ht] at hsh
  have HS := Lib.hid hsh
  obtain ⟨r, hr⟩ : ∃ r, nameOk n.data.toList = r := ⟨_, rfl⟩
  have HC := Lib.hid (fun w => rname_as n r hr w)
  have HK : Hid (relKey n.data.toList ⟨a, b, c, p⟩ = if r then (relL n.data.toList t.data.toList, 0) else ([], 220)) := by
    show _ = _
    unfold relKey
    rw [hok, hr, ← ht]; rfl
  have hn : r = true → n.size ≤ 24 := fun h => by subst h; rw [Lib.size_eq]; exact (name_len hr).2.1
  clear hr hlen ht hsh hok
  cases r
  · clear hn
    go_enter Tryz.func16, Tryz.ntmps16
    go_wp2_with fail
    refine (rshowV ⟨a, b, c, p⟩ _ _ HS.out _ hs).mono ?_
    rintro e w1 ⟨rfl, hb1⟩
    go_wp2_with fail
    refine (HC.out _).mono ?_
    rintro e w2 ⟨rfl, hb2⟩
    go_wp2_with fail
    go_ret2
    exact ⟨by rw [HK.out]; rfl, below_then (below_then hW hb1) hb2⟩
  · have hn := hn rfl
    have r1 : ∀ W, (Op.stringOp .add ⟨#[114, 47]⟩ n).run Tryz.prog W = .ok (.string (⟨#[114, 47]⟩ ++ n)) W := fun W => run_string_add_sum W _ _ (by rw [show (⟨#[114, 47]⟩ : ByteArray).size = 2 from rfl]; omega)
    have r2 : ∀ W, (Op.stringOp .add (⟨#[114, 47]⟩ ++ n) ⟨#[47]⟩).run Tryz.prog W = .ok (.string (⟨#[114, 47]⟩ ++ n ++ ⟨#[47]⟩)) W := fun W => run_string_add_sum W _ _ (by rw [ByteArray.size_append, show (⟨#[114, 47]⟩ : ByteArray).size = 2 from rfl, show (⟨#[47]⟩ : ByteArray).size = 1 from rfl]; omega)
    have r3 : ∀ W, (Op.stringOp .add (⟨#[114, 47]⟩ ++ n ++ ⟨#[47]⟩) t).run Tryz.prog W = .ok (.string (⟨#[114, 47]⟩ ++ n ++ ⟨#[47]⟩ ++ t)) W := fun W => run_string_add_sum W _ _ (by rw [ByteArray.size_append, ByteArray.size_append, show (⟨#[114, 47]⟩ : ByteArray).size = 2 from rfl, show (⟨#[47]⟩ : ByteArray).size = 1 from rfl]; omega)
    go_enter Tryz.func16, Tryz.ntmps16
    go_wp2_with fail
    refine (rshowV ⟨a, b, c, p⟩ _ _ HS.out _ hs).mono ?_
    rintro e w1 ⟨rfl, hb1⟩
    go_wp2_with fail
    refine (HC.out _).mono ?_
    rintro e w2 ⟨rfl, hb2⟩
    go_wp2_with fail
    go_ret2
    exact ⟨by rw [HK.out]; show Ending.returned (.tuple #[.string (relBytes n t), _]) = _; rw [relBytes_eq]; rfl, below_then (below_then hW hb1) hb2⟩
end Go.Proofs.YtlhpgkaffbgkgaaGreatDoor
