/- Keys: the program's ReadKey: a walk. -/
import Derived.Test.YtlhpgkaffbgkgaaGreatDoorRec4
namespace Go
open Go.RowKit
theorem box_four {w w1 : World} {x0 x1 x2 x3 : Value} {T : TypeId} (h : Below (w.heap.size + 1) (w.alloc (.cells #[x0, x1, x2, x3] T)) w1) :
    (w1.cell? ⟨w.heap.size, 0, none⟩ = some x0 ∧ w1.cell? ⟨w.heap.size, 1, none⟩ = some x1 ∧ w1.cell? ⟨w.heap.size, 2, none⟩ = some x2 ∧ w1.cell? ⟨w.heap.size, 3, none⟩ = some x3) ∧
    (w1.frozen? ⟨w.heap.size, 0, none⟩ = false ∧ w1.frozen? ⟨w.heap.size, 1, none⟩ = false ∧ w1.frozen? ⟨w.heap.size, 2, none⟩ = false ∧ w1.frozen? ⟨w.heap.size, 3, none⟩ = false) :=
  ⟨⟨box_cells h 0, box_cells h 1, box_cells h 2, box_cells h 3⟩, box_free h 0, box_free h 1, box_free h 2, box_free h 3⟩
theorem trim_le (l p : List UInt8) : (Lib.trimPrefix l p).length ≤ l.length := by
  unfold Lib.trimPrefix
  split
  · rw [List.length_drop]; omega
  · exact Nat.le_refl _
end Go
namespace Go.Proofs.YtlhpgkaffbgkgaaGreatDoor
open Go.RowKit
/-- what a key is of, told by a call -/
def KeyPost (l : List UInt8) (w : World) (e : Ending) (w' : World) : Prop :=
  ∃ n v is er, e = .returned (.tuple #[.string (S n), .agg #[.int .i64 v.a, .int .i64 v.b, .int .i64 v.c, .string v.p], .bool is, .int .i64 er]) ∧ KeyIs l n v is er ∧ Below w.heap.size w w'
set_option maxRecDepth 100000 in
set_option maxHeartbeats 4000000 in
theorem readKey_any (s : ByteArray) (w : World) (hE : Env w) (hs : s.size < 4294967281) : Calls Tryz.prog 17 #[.string s] w (KeyPost s.data.toList w) := by
  have HE := Lib.hid hE
  have hW := (Below.refl w.heap.size w).alloc (Nat.le_refl _) (.cells #[.int .i64 0, .int .i64 0, .int .i64 0, .string ⟨#[]⟩] 23)
  have hx0 := Below.refl (w.heap.size + 1) (w.alloc (.cells #[.int .i64 0, .int .i64 0, .int .i64 0, .string ⟨#[]⟩] 23))
  obtain ⟨l, hl⟩ : ∃ l, s.data.toList = l := ⟨_, rfl⟩
  have hll : l.length < 4294967281 := by rw [← hl, ← Lib.size_eq]; exact hs
  have HP1 := fun w => cutP_any 111 47 s w
  have HP2 := fun w => cutP_any 114 47 s w
  rw [hl] at HP1 HP2 ⊢
  have hr := trim_le l [114, 47]
  obtain ⟨o, ho⟩ : ∃ o, Lib.trimPrefix l [111, 47] = o := ⟨_, rfl⟩
  obtain ⟨r, hr0⟩ : ∃ r, Lib.trimPrefix l [114, 47] = r := ⟨_, rfl⟩
  obtain ⟨bo, hbo⟩ : ∃ bo, Lib.hasPrefix l [111, 47] = bo := ⟨_, rfl⟩
  obtain ⟨br, hbr⟩ : ∃ br, Lib.hasPrefix l [114, 47] = br := ⟨_, rfl⟩
  rw [ho, hbo] at HP1
  rw [hr0, hbr] at HP2
  rw [hr0] at hr
  have HP1 := Lib.hid HP1
  have HP2 := Lib.hid HP2
  obtain ⟨no, hno⟩ : ∃ no, nameOk o = no := ⟨_, rfl⟩
  have HL1 := Lib.hid (fun w => lname_as (S o) no hno w)
  have HCu := fun w hE => cutC_any 47 (S r) w hE (by rw [S_size]; omega)
  simp only [S_data] at HCu
  obtain ⟨n, hn⟩ : ∃ n, headAt 47 r = n := ⟨_, rfl⟩
  obtain ⟨t, ht⟩ : ∃ t, tailAt 47 r = t := ⟨_, rfl⟩
  obtain ⟨m, hm⟩ : ∃ m, hasAt 47 r = m := ⟨_, rfl⟩
  have htl := tailAt_len 47 r
  rw [hn, ht, hm] at HCu
  rw [ht] at htl
  have HCu := Lib.hid HCu
  obtain ⟨nn, hnn⟩ : ∃ nn, nameOk n = nn := ⟨_, rfl⟩
  have HL2 := Lib.hid (fun w => lname_as (S n) nn hnn w)
  have hts : (S t).size < 4294967281 := by rw [S_size]; omega
  have HPa := Lib.hid (fun w hE => parse_any (S t) w hE hts)
  -- the owner's key
  by_cases hA : bo = true ∧ no = true
  · obtain ⟨rfl, rfl⟩ := hA
    have HN := Lib.hid (keyIs_own (is_own hbo) (by rw [ho]; exact hno))
    rw [ho] at HN
    obtain ⟨⟨c0, c1, c2, c3⟩, ⟨f0, f1, f2, f3⟩⟩ := box_four hx0
    clear ho hr0 hbo hbr hno hn ht hm hnn hr hl htl hll
    go_enter Tryz.func17, Tryz.ntmps17
    go_wp2_with fail
    refine (HP1.out _).mono ?_
    rintro e w1 ⟨rfl, rfl⟩
    go_wp2_with fail
    refine (HL1.out _).mono ?_
    rintro e w2 ⟨rfl, rfl⟩
    go_wp2_with fail
    exact bodyPost_ret (v := .tuple #[.string (S o), .agg #[.int .i64 0, .int .i64 0, .int .i64 0, .string ⟨#[]⟩], .bool false, .int .i64 0]) (by simp [results, Tryz.results17, go_sem]) rfl ⟨o, V4.zero, false, 0, rfl, HN.out, hW⟩
  have HNo : Hid (∀ m, nameOk m = true → l ≠ ownL m) := by
    show ∀ _, _
    apply not_own
    rw [hbo, ho, hno]
    cases bo <;> cases no <;> first | exact .inl rfl | exact .inr rfl | exact absurd ⟨rfl, rfl⟩ hA
  have HNr : Hid ((br = false ∨ m = false ∨ (∀ a b c p, ¬ IsShow a b c p t) ∨ nn = false) → KeyIs l [] V4.zero false 220) := by
    show _ → _
    intro h
    refine keyIs_no HNo.out (not_rel ?_)
    rw [hbr, hr0, hm, ht, hn, hnn]
    exact h
  have HYr : Hid (br = true → m = true → nn = true → ∀ v : V4, v.IsShow t → KeyIs l n v true 0) := by
    show _ → _ → _ → ∀ _, _
    rintro rfl rfl rfl v hv
    have e := is_rel hbr (by rw [hr0]; exact hm)
    rw [hr0, hn, ht] at e
    exact keyIs_rel e hnn hv
  have hB : bo = true → br = false := by
    rintro rfl
    obtain ⟨x, rfl⟩ := pre_two.1 hbo
    rw [← hbr]; rfl
  clear ho hr0 hbo hbr hno hn ht hm hnn hr hl htl hll
  have hAB : (bo = false) ∨ (bo = true ∧ no = false ∧ br = false) := by
    cases bo
    · exact .inl rfl
    · refine .inr ⟨rfl, ?_, hB rfl⟩
      cases no
      · rfl
      · exact absurd ⟨rfl, rfl⟩ hA
  clear hA hB
  rcases hAB with rfl | ⟨rfl, rfl, rfl⟩
  · go_enter Tryz.func17, Tryz.ntmps17
    go_wp2_with fail
    refine (HP1.out _).mono ?_
    rintro e w1 ⟨rfl, rfl⟩
    go_wp2_with fail
    refine (HP2.out _).mono ?_
    rintro e w2 ⟨rfl, rfl⟩
    go_wp2_with fail
    refine (HCu.out _ (HE.out.below hW)).mono ?_
    rintro e w3 ⟨rfl, hb3⟩
    have hx3 := box_of hb3
    have hb4 := below_then hW hb3
    go_wp2_with fail
    refine (HPa.out _ (HE.out.below hb4)).mono ?_
    rintro e w5 ⟨x, y, z, p, er, rfl, hP, hb5⟩
    have hx5 := box_then hx3 hb5
    have hb6 := below_then hb4 hb5
    have HP := Lib.hid hP
    clear hP hb3 hb5 hx3 hb4
    obtain ⟨⟨c0, c1, c2, c3⟩, ⟨f0, f1, f2, f3⟩⟩ := box_four hx5
    have hz := cell_lt c0
    cases br
    · have HN := Lib.hid (HNr.out (.inl rfl))
      go_wp2_with fail
      refine bodyPost_ret (v := .tuple #[.string ⟨#[]⟩, .agg #[.int .i64 0, .int .i64 0, .int .i64 0, .string ⟨#[]⟩], .bool false, .int .i64 220]) (by simp [results, Tryz.results17, go_sem, c0, c1, c2, c3, hz]) rfl ⟨[], V4.zero, false, 220, rfl, HN.out, ?_⟩
      refine Below.alloc ?_ (by simp; exact hb6.size) _
      iterate 4 refine below_here ?_ _ _
      exact hb6
    cases m
    · have HN := Lib.hid (HNr.out (.inr (.inl rfl)))
      go_wp2_with fail
      refine bodyPost_ret (v := .tuple #[.string ⟨#[]⟩, .agg #[.int .i64 0, .int .i64 0, .int .i64 0, .string ⟨#[]⟩], .bool false, .int .i64 220]) (by simp [results, Tryz.results17, go_sem, c0, c1, c2, c3, hz]) rfl ⟨[], V4.zero, false, 220, rfl, HN.out, ?_⟩
      refine Below.alloc ?_ (by simp; exact hb6.size) _
      iterate 4 refine below_here ?_ _ _
      exact hb6
    rcases HP.out with ⟨rfl, hS⟩ | ⟨rfl, rfl, rfl, rfl, rfl, hno⟩
    rotate_left
    · have HN := Lib.hid (HNr.out (.inr (.inr (.inl hno))))
      clear hno
      go_wp2_with fail
      refine bodyPost_ret (v := .tuple #[.string ⟨#[]⟩, .agg #[.int .i64 0, .int .i64 0, .int .i64 0, .string ⟨#[]⟩], .bool false, .int .i64 220]) (by simp [results, Tryz.results17, go_sem, c0, c1, c2, c3, hz]) rfl ⟨[], V4.zero, false, 220, rfl, HN.out, ?_⟩
      refine Below.alloc ?_ (by simp; exact hb6.size) _
      iterate 4 refine below_here ?_ _ _
      exact hb6
    have HS := Lib.hid hS
    clear hS
    cases nn
    · have HN := Lib.hid (HNr.out (.inr (.inr (.inr rfl))))
      go_wp2_with fail
      refine (HL2.out _).mono ?_
      rintro e w7 ⟨rfl, rfl⟩
      go_wp2_with fail
      refine bodyPost_ret (v := .tuple #[.string ⟨#[]⟩, .agg #[.int .i64 0, .int .i64 0, .int .i64 0, .string ⟨#[]⟩], .bool false, .int .i64 220]) (by simp [results, Tryz.results17, go_sem, c0, c1, c2, c3, hz]) rfl ⟨[], V4.zero, false, 220, rfl, HN.out, ?_⟩
      refine Below.alloc ?_ (by simp; exact hb6.size) _
      iterate 4 refine below_here ?_ _ _
      exact hb6
    have HN := Lib.hid (HYr.out rfl rfl rfl ⟨x, y, z, S p⟩ ⟨HS.out.1, HS.out.2⟩)
    go_wp2_with fail
    refine (HL2.out _).mono ?_
    rintro e w7 ⟨rfl, rfl⟩
    go_wp2_with fail
    go_region
    go_wp2_with fail
    refine bodyPost_ret (v := .tuple #[.string (S n), .agg #[.int .i64 x, .int .i64 y, .int .i64 z, .string (S p)], .bool true, .int .i64 0]) (by simp [results, Tryz.results17, go_sem, c0, c1, c2, c3, hz]) rfl ⟨n, ⟨x, y, z, S p⟩, true, 0, rfl, HN.out, ?_⟩
    refine Below.drew (Below.alloc ?_ (by simp; exact hb6.size) _)
    iterate 4 refine below_here ?_ _ _
    exact hb6
  · have HN := Lib.hid (HNr.out (.inl rfl))
    go_enter Tryz.func17, Tryz.ntmps17
    go_wp2_with fail
    refine (HP1.out _).mono ?_
    rintro e w1 ⟨rfl, rfl⟩
    go_wp2_with fail
    refine (HL1.out _).mono ?_
    rintro e w1' ⟨rfl, rfl⟩
    go_wp2_with fail
    refine (HP2.out _).mono ?_
    rintro e w2 ⟨rfl, rfl⟩
    go_wp2_with fail
    refine (HCu.out _ (HE.out.below hW)).mono ?_
    rintro e w3 ⟨rfl, hb3⟩
    have hx3 := box_of hb3
    have hb4 := below_then hW hb3
    go_wp2_with fail
    refine (HPa.out _ (HE.out.below hb4)).mono ?_
    rintro e w5 ⟨x, y, z, p, er, rfl, hP, hb5⟩
    have hx5 := box_then hx3 hb5
    have hb6 := below_then hb4 hb5
    have HP := Lib.hid hP
    clear hP hb3 hb5 hx3 hb4
    obtain ⟨⟨c0, c1, c2, c3⟩, ⟨f0, f1, f2, f3⟩⟩ := box_four hx5
    have hz := cell_lt c0
    go_wp2_with fail
    refine bodyPost_ret (v := .tuple #[.string ⟨#[]⟩, .agg #[.int .i64 0, .int .i64 0, .int .i64 0, .string ⟨#[]⟩], .bool false, .int .i64 220]) (by simp [results, Tryz.results17, go_sem, c0, c1, c2, c3, hz]) rfl ⟨[], V4.zero, false, 220, rfl, HN.out, ?_⟩
    refine Below.alloc ?_ (by simp; exact hb6.size) _
    iterate 4 refine below_here ?_ _ _
    exact hb6
end Go.Proofs.YtlhpgkaffbgkgaaGreatDoor
