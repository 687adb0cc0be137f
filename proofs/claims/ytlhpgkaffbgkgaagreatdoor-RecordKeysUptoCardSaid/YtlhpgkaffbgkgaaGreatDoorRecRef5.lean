/- The reference's keys: ReadKey: a walk. -/
import Derived.Test.YtlhpgkaffbgkgaaGreatDoorRecRef4
namespace Go
open Go.RowKit
theorem ext_drop (s : ByteArray) (a : Nat) : (s.extract a s.size).data.toList = s.data.toList.drop a := by
  rw [Lib.extract_data, List.take_of_length_le]
  rw [List.length_drop, ← Lib.size_eq]; omega
theorem ext_mid (s : ByteArray) (a b : Nat) : (s.extract a b).data.toList = (s.data.toList.take b).drop a := by
  rw [Lib.extract_data, List.drop_take]
end Go
namespace Go.Proofs.YtlhpgkaffbgkgaaGreatDoor
open Go.RowKit
theorem keepV4 {P : Program} {f : FuncId} {args : Array Value} {v : Value} (w0 w : World) (B : Nat) (x0 x1 x2 x3 : Value)
    (h : w.cell? ⟨B, 0, none⟩ = some x0 ∧ w.cell? ⟨B, 1, none⟩ = some x1 ∧ w.cell? ⟨B, 2, none⟩ = some x2 ∧ w.cell? ⟨B, 3, none⟩ = some x3 ∧ Below w0.heap.size w0 w)
    (hc : Calls P f args w fun e w' => e = .returned v ∧ Below w.heap.size w w') :
    Calls P f args w fun e w' => e = .returned v ∧ (w'.cell? ⟨B, 0, none⟩ = some x0 ∧ w'.cell? ⟨B, 1, none⟩ = some x1 ∧ w'.cell? ⟨B, 2, none⟩ = some x2 ∧ w'.cell? ⟨B, 3, none⟩ = some x3 ∧ Below w0.heap.size w0 w') := by
  obtain ⟨h0, h1, h2, h3, h4⟩ := h
  refine hc.mono fun _ _ ⟨he, hb⟩ => ⟨he, ?_, ?_, ?_, ?_, below_then h4 hb⟩
  · exact (hb.cell (p := ⟨B, 0, none⟩) (cell_lt h0)).trans h0
  · exact (hb.cell (p := ⟨B, 1, none⟩) (cell_lt h1)).trans h1
  · exact (hb.cell (p := ⟨B, 2, none⟩) (cell_lt h2)).trans h2
  · exact (hb.cell (p := ⟨B, 3, none⟩) (cell_lt h3)).trans h3
/-- what a try at one place comes to -/
theorem try_cases {l n r : List UInt8} {i : Nat} {x y z : Int} {p : List UInt8} {er : Int} (hn : (l.take i).drop 2 = n) (hr : l.drop (i + 1) = r) (hP : ParseIs r x y z p er) (hno : NoTill l i) {t : List UInt8} {e : Int} (hk : relKey n ⟨x, y, z, S p⟩ = (t, e)) :
    (er = 0 ∧ e = 0 ∧ t = l ∧ KeyIs l n ⟨x, y, z, S p⟩ true 0) ∨ ((er = 40 ∨ (er = 0 ∧ e = 220) ∨ (er = 0 ∧ e = 0 ∧ t ≠ l)) ∧ NoTill l (i + 1)) := by
  subst hn hr
  rcases hP with ⟨rfl, hS⟩ | ⟨rfl, rfl, rfl, rfl, rfl, hS⟩
  · have hv : V4.IsShow ⟨x, y, z, S p⟩ (l.drop (i + 1)) := ⟨hS.1, hS.2⟩
    unfold relKey at hk
    rw [hv.1, hv.2, Bool.true_and] at hk
    cases hnm : nameOk ((l.take i).drop 2)
    · rw [hnm] at hk
      injection hk with h1 h2
      refine .inr ⟨.inr (.inl ⟨rfl, h2.symm⟩), noTill_step hno (fun x' h _ _ => ?_)⟩
      rw [hnm] at h; cases h
    · rw [hnm] at hk
      injection hk with h1 h2
      by_cases ht : t = l
      · refine .inl ⟨rfl, h2.symm, ht, keyIs_rel ?_ hnm hv⟩
        rw [h1, ht]
      · refine .inr ⟨.inr (.inr ⟨rfl, h2.symm, ht⟩), noTill_step hno (fun x' _ _ he => ?_)⟩
        exact ht (h1.symm.trans he.symm)
  · exact .inr ⟨.inl rfl, noTill_step hno (fun x' _ hx _ => hS x'.a x'.b x'.c x'.p.data.toList ⟨hx.1, hx.2⟩)⟩
def RKRel (l : List UInt8) (w : World) (iv : Value) (wr : World) : Prop :=
  ∃ i : Nat, 2 ≤ i ∧ i ≤ l.length ∧ iv = .int .i64 (i : Int) ∧ NoTill l i ∧ Below w.heap.size w wr ∧ Below (w.heap.size + 1) (w.alloc (.cells #[.int .i64 0, .int .i64 0, .int .i64 0, .string ⟨#[]⟩] 23)) wr
theorem rownerKey_as (n : ByteArray) (t : List UInt8) (e0 : Int) (h : ownKey n.data.toList = (t, e0)) (w : World) : Calls Tryz.prog 14 #[.string n] w fun e w' => e = .returned (.tuple #[.string (S t), .int .i64 e0]) ∧ Below w.heap.size w w' := by
  have := rownerKey_any n w
  rw [h] at this
  exact this
theorem rreleaseKey_as (n : ByteArray) (v : V4) (t : List UInt8) (e0 : Int) (h : relKey n.data.toList v = (t, e0)) (w : World) (hs : v.p.size ≤ 9223372036854775807) :
    Calls Tryz.prog 16 #[.string n, .agg #[.int .i64 v.a, .int .i64 v.b, .int .i64 v.c, .string v.p]] w fun e w' => e = .returned (.tuple #[.string (S t), .int .i64 e0]) ∧ Below w.heap.size w w' := by
  have := rreleaseKey_any n v w hs
  rw [h] at this
  exact this
set_option maxRecDepth 100000 in
set_option maxHeartbeats 4000000 in
theorem rreadKey_any (s : ByteArray) (w : World) : Calls Tryz.prog 18 #[.string s] w (KeyPost s.data.toList w) := by
  have hW := (Below.refl w.heap.size w).alloc (Nat.le_refl _) (.cells #[.int .i64 0, .int .i64 0, .int .i64 0, .string ⟨#[]⟩] 23)
  have hx0 := Below.refl (w.heap.size + 1) (w.alloc (.cells #[.int .i64 0, .int .i64 0, .int .i64 0, .string ⟨#[]⟩] 23))
  have HLn := Lib.hid (Lib.size_eq s)
  by_cases h2 : s.size < 2
  · have HN := Lib.hid (keyIs_len (l := s.data.toList) (.inl (by rw [← HLn.out]; exact h2)))
    have q1 : decide ((s.size : Int) < 2) = true := by simp; omega
    clear h2
    go_enter Tryz.func18, Tryz.ntmps18
    go_wp2_with fail
    exact bodyPost_ret (v := .tuple #[.string ⟨#[]⟩, .agg #[.int .i64 0, .int .i64 0, .int .i64 0, .string ⟨#[]⟩], .bool false, .int .i64 220]) (by simp [results, Tryz.results18, go_sem]) rfl ⟨[], V4.zero, false, 220, rfl, HN.out, hW⟩
  have q1 : decide ((s.size : Int) < 2) = false := by simp; omega
  by_cases h100 : 100 < s.size
  · have HN := Lib.hid (keyIs_len (l := s.data.toList) (.inr (by rw [← HLn.out]; exact h100)))
    have q2 : decide ((100 : Int) < (s.size : Int)) = true := by simp; omega
    clear h2 h100
    go_enter Tryz.func18, Tryz.ntmps18
    go_wp2_with fail
    exact bodyPost_ret (v := .tuple #[.string ⟨#[]⟩, .agg #[.int .i64 0, .int .i64 0, .int .i64 0, .string ⟨#[]⟩], .bool false, .int .i64 220]) (by simp [results, Tryz.results18, go_sem]) rfl ⟨[], V4.zero, false, 220, rfl, HN.out, hW⟩
  have q2 : decide ((100 : Int) < (s.size : Int)) = false := by simp; omega
  have hs2 : (2 : Int) ≤ (s.size : Int) := by omega
  obtain ⟨d, hd⟩ : ∃ d, s.extract 2 s.size = d := ⟨_, rfl⟩
  have HD : Hid (d.data.toList = s.data.toList.drop 2) := by show _ = _; rw [← hd]; exact ext_drop s 2
  have hds : d.size ≤ 100 := by rw [← hd]; simp; omega
  by_cases hA : nameOk (s.data.toList.drop 2) = true ∧ ownL (s.data.toList.drop 2) = s.data.toList
  · have HN := Lib.hid (keyIs_own hA.2.symm hA.1)
    have hk : ownKey d.data.toList = (s.data.toList, 0) := by unfold ownKey; rw [HD.out, if_pos hA.1, hA.2]
    have HC := Lib.hid (fun w => rownerKey_as d _ _ hk w)
    have q3 : ((S s.data.toList).toList == s.toList) = true := by rw [S_toList, Lib.toList_data]; simp
    obtain ⟨A, hA'⟩ : ∃ A, S s.data.toList = A := ⟨_, rfl⟩
    rw [hA'] at HC q3
    have HX : Hid (d = S (s.data.toList.drop 2)) := by show _ = _; rw [← HD.out, S_of]
    clear hA hk hA' h2 h100
    go_enter Tryz.func18, Tryz.ntmps18
    go_wp2_with fail
    refine (HC.out _).mono ?_
    rintro e w1 ⟨rfl, hb1⟩
    have hx := box_of hb1
    have hb2 := below_then hW hb1
    obtain ⟨⟨c0, c1, c2, c3⟩, ⟨f0, f1, f2, f3⟩⟩ := box_four hx
    have hz := cell_lt c0
    go_wp2_with fail
    refine bodyPost_ret (v := .tuple #[.string d, .agg #[.int .i64 0, .int .i64 0, .int .i64 0, .string ⟨#[]⟩], .bool false, .int .i64 0]) (by simp [results, Tryz.results18, go_sem, c0, c1, c2, c3]) rfl ⟨s.data.toList.drop 2, V4.zero, false, 0, by rw [← HX.out]; rfl, HN.out, ?_⟩
    iterate 4 refine below_here ?_ _ _
    exact hb2
  have HNo := Lib.hid (not_own2 hA)
  have hB : ∃ (t : List UInt8) (e0 : Int), ownKey d.data.toList = (t, e0) ∧ ((e0 = 220) ∨ (e0 = 0 ∧ ((S t).toList == s.toList) = false)) := by
    unfold ownKey
    rw [HD.out]
    cases hn : nameOk (s.data.toList.drop 2)
    · exact ⟨_, _, rfl, .inl rfl⟩
    · refine ⟨_, _, rfl, .inr ⟨rfl, ?_⟩⟩
      rw [S_toList, Lib.toList_data, beq_eq_false_iff_ne]
      exact fun h => hA ⟨hn, h⟩
  obtain ⟨t, e0, hk, hq⟩ := hB
  have HC := Lib.hid (fun w => rownerKey_as d _ _ hk w)
  have hl2 : s.size ≤ 100 := by omega
  obtain ⟨A, hA'⟩ : ∃ A, S t = A := ⟨_, rfl⟩
  rw [hA'] at HC hq
  clear hA hk hA'
  rcases hq with rfl | ⟨rfl, hq⟩
  all_goals
    go_enter Tryz.func18, Tryz.ntmps18
    go_wp2_with fail
    refine (HC.out _).mono ?_
    rintro e w1 ⟨rfl, hb1⟩
    have hx := box_of hb1
    have hb2 := below_then hW hb1
    clear hb1
    go_wp2_with fail
    go_loopw [8] (fun iv wr => RKRel s.data.toList w iv wr) (fun iv _ => s.size - (intOf iv).toNat)
    case atStart => exact ⟨2, Nat.le_refl _, by rw [← HLn.out]; omega, rfl, noTill_start _, hb2, hx⟩
    case round =>
      obtain ⟨i, hi2, hil, rfl, hno, hbw, hxw⟩ := hrel
      rw [← HLn.out] at hil
      have HNt := Lib.hid hno
      clear hno
      by_cases hlt : i < s.size
      · have hb1 : (i : Int) + 1 ≤ (s.size : Int) := by omega
        have hb3 : (0 : Int) ≤ (i : Int) + 1 := by omega
        obtain ⟨d1, hd1⟩ : ∃ d1, s.extract (i + 1) s.size = d1 := ⟨_, rfl⟩
        have HD1 : Hid (d1.data.toList = s.data.toList.drop (i + 1)) := by show _ = _; rw [← hd1]; exact ext_drop s (i + 1)
        have hd1s : d1.size ≤ 100 := by rw [← hd1]; simp; omega
        have hsl : ∀ W, (Instr.slice 9 (.string s) (some (.int .i64 ((i : Int) + 1))) none none).run Tryz.prog W = .ok (.string d1) W := fun W => by
          have := run_slice_string_from_if (P := Tryz.prog) W 9 s .i64 ((i : Int) + 1) Tryz.underlying9
          rw [if_pos ⟨hb3, hb1⟩, show ((i : Int) + 1).toNat = i + 1 by omega, hd1] at this
          exact this
        clear hd1
        go_wp2_with fail
        refine (refParse_any d1 _ (by omega)).mono ?_
        rintro e w3 ⟨x, y, z, p, er, rfl, hP, hb4⟩
        have HP := Lib.hid hP
        have hps : p.length ≤ 24 := by
          rcases hP with ⟨_, hS⟩ | ⟨_, _, _, _, rfl, _⟩
          · exact (verOk_bounds hS.1).2.2.2.2.2.2.1
          · exact Nat.zero_le _
        obtain ⟨d2, hd2⟩ : ∃ d2, s.extract 2 i = d2 := ⟨_, rfl⟩
        have HD2 : Hid (d2.data.toList = (s.data.toList.take i).drop 2) := by show _ = _; rw [← hd2]; exact ext_mid s 2 i
        have hsl2 : ∀ W, (Instr.slice 9 (.string s) (some (.int .i64 2)) (some (.int .i64 (i : Int))) none).run Tryz.prog W = .ok (.string d2) W := fun W => by
          have := run_slice_string (P := Tryz.prog) W 9 s .i64 .i64 2 (i : Int) Tryz.underlying9 (by omega) (by omega) (by omega)
          rw [show (2 : Int).toNat = 2 from rfl, show (i : Int).toNat = i by omega, hd2] at this
          exact this
        obtain ⟨t2, e2, hk2⟩ : ∃ t2 e2, relKey d2.data.toList ⟨x, y, z, S p⟩ = (t2, e2) := ⟨_, _, rfl⟩
        have hcs := try_cases HD2.out.symm HD1.out.symm hP HNt.out hk2
        have HR := Lib.hid (fun W => rreleaseKey_as d2 ⟨x, y, z, S p⟩ t2 e2 hk2 W (by simp only; rw [S_size]; omega))
        obtain ⟨A2, hA2⟩ : ∃ A2, S t2 = A2 := ⟨_, rfl⟩
        rw [hA2] at HR
        have HDS : Hid (d2 = S d2.data.toList) := (S_of d2).symm
        have hcs2 : (er = 0 ∧ e2 = 0 ∧ (A2.toList == s.toList) = true ∧ Hid (KeyIs s.data.toList d2.data.toList ⟨x, y, z, S p⟩ true 0)) ∨ ((er = 40 ∨ (er = 0 ∧ e2 = 220) ∨ (er = 0 ∧ e2 = 0 ∧ (A2.toList == s.toList) = false)) ∧ Hid (NoTill s.data.toList (i + 1))) := by
          rcases hcs with ⟨h1, h2, h3, h4⟩ | ⟨h, h4⟩
          · exact .inl ⟨h1, h2, by rw [← hA2, S_toList, Lib.toList_data, h3]; simp, h4⟩
          · refine .inr ⟨?_, h4⟩
            rcases h with h | h | ⟨h1, h2, h3⟩
            · exact .inl h
            · exact .inr (.inl h)
            · exact .inr (.inr ⟨h1, h2, by rw [← hA2, S_toList, Lib.toList_data, beq_eq_false_iff_ne]; exact h3⟩)
        clear hP hsl hcs hk2 hA2 hd2
        have hal : Below w3.heap.size w3 (w3.alloc (.cells #[.int .i64 x, .int .i64 y, .int .i64 z, .string (S p)] 23)) := (Below.refl _ _).alloc (Nat.le_refl _) _
        have hb5 := below_then (below_then hbw hb4) hal
        have hx5 := box_then (box_then hxw hb4) hal
        have hz5 : w.heap.size < w3.heap.size := by have := (box_then hxw hb4).size; simp at this; omega
        have v0 : (w3.alloc (.cells #[.int .i64 x, .int .i64 y, .int .i64 z, .string (S p)] 23)).cell? ⟨w3.heap.size, 0, none⟩ = some (.int .i64 x) := box_cells (Below.refl (w3.heap.size + 1) _) 0
        have v1 : (w3.alloc (.cells #[.int .i64 x, .int .i64 y, .int .i64 z, .string (S p)] 23)).cell? ⟨w3.heap.size, 1, none⟩ = some (.int .i64 y) := box_cells (Below.refl (w3.heap.size + 1) _) 1
        have v2 : (w3.alloc (.cells #[.int .i64 x, .int .i64 y, .int .i64 z, .string (S p)] 23)).cell? ⟨w3.heap.size, 2, none⟩ = some (.int .i64 z) := box_cells (Below.refl (w3.heap.size + 1) _) 2
        have v3 : (w3.alloc (.cells #[.int .i64 x, .int .i64 y, .int .i64 z, .string (S p)] 23)).cell? ⟨w3.heap.size, 3, none⟩ = some (.string (S p)) := box_cells (Below.refl (w3.heap.size + 1) _) 3
        go_wp2_with fail
        obtain ⟨B3, hB3⟩ : ∃ B3, w3.heap.size = B3 := ⟨_, rfl⟩
        rw [hB3] at v0 v1 v2 v3 hz5
        rw [hB3]
        generalize w3.alloc (.cells #[.int .i64 x, .int .i64 y, .int .i64 z, .string (S p)] 23) = w4 at v0 v1 v2 v3 hal hb5 hx5 ⊢
        clear hal hb4 hbw hxw hB3
        have hd0 : Below w4.heap.size w4 w4.drew := (Below.refl _ _).drew
        rcases hcs2 with ⟨rfl, rfl, q9, HN⟩ | ⟨hcs3, HN⟩
        · go_region_held3 (fun w' => w'.cell? ⟨B3, 0, none⟩ = some (.int .i64 x) ∧ w'.cell? ⟨B3, 1, none⟩ = some (.int .i64 y) ∧ w'.cell? ⟨B3, 2, none⟩ = some (.int .i64 z) ∧ w'.cell? ⟨B3, 3, none⟩ = some (.string (S p)) ∧ Below w4.heap.size w4 w') (go_keep) ((go_at_call 16; refine (keepV4 w4 _ B3 _ _ _ _ (by assumption) (HR.out _)).mono ?_; rintro e w5 ⟨rfl, hk5⟩))
          obtain ⟨g0, g1, g2, g3, hb6⟩ := hk5
          have hb7 := below_then hb5 hb6
          have hx7 := box_then hx5 hb6
          obtain ⟨⟨c0, c1, c2, c3⟩, ⟨f0, f1, f2, f3⟩⟩ := box_four hx7
          have hz7 := cell_lt c0
          clear v0 v1 v2 v3
          go_wp2_with fail
          go_region
          go_wp2_with fail
          refine bodyPost_ret (v := .tuple #[.string d2, .agg #[.int .i64 x, .int .i64 y, .int .i64 z, .string (S p)], .bool true, .int .i64 0]) (by simp [results, Tryz.results18, go_sem, c0, c1, c2, c3]) rfl ⟨d2.data.toList, ⟨x, y, z, S p⟩, true, 0, by rw [← HDS.out], HN.out, ?_⟩
          refine Below.drew ?_
          iterate 4 refine below_here ?_ _ _
          exact hb7
        · rcases hcs3 with rfl | ⟨rfl, rfl⟩ | ⟨rfl, rfl, q9⟩
          all_goals
            go_region_held3 (fun w' => w'.cell? ⟨B3, 0, none⟩ = some (.int .i64 x) ∧ w'.cell? ⟨B3, 1, none⟩ = some (.int .i64 y) ∧ w'.cell? ⟨B3, 2, none⟩ = some (.int .i64 z) ∧ w'.cell? ⟨B3, 3, none⟩ = some (.string (S p)) ∧ Below w4.heap.size w4 w') (go_keep) ((go_at_call 16; refine (keepV4 w4 _ B3 _ _ _ _ (by assumption) (HR.out _)).mono ?_; rintro e w5 ⟨rfl, hk5⟩))
            have hb7 := below_then hb5 hk5.2.2.2.2
            have hx7 := box_then hx5 hk5.2.2.2.2
            clear v0 v1 v2 v3 hsl2 hk5
            go_wp2_with fail
            go_roundw
            case rel => exact ⟨i + 1, by omega, by rw [← HLn.out]; omega, by go_num, HN.out, hb7, hx7⟩
            case measure => simp [intOf]; omega
      · have q2 : decide (i < s.size) = false := decide_eq_false hlt
        have HN : Hid (KeyIs s.data.toList [] V4.zero false 220) := by
          have hi : i = s.data.toList.length := by rw [← HLn.out]; omega
          have h := HNt.out
          rw [hi] at h
          exact keyIs_no HNo.out (noTill_end h)
        obtain ⟨⟨c0, c1, c2, c3⟩, ⟨f0, f1, f2, f3⟩⟩ := box_four hxw
        clear hlt
        go_wp2_with fail
        refine bodyPost_ret (v := .tuple #[.string ⟨#[]⟩, .agg #[.int .i64 0, .int .i64 0, .int .i64 0, .string ⟨#[]⟩], .bool false, .int .i64 220]) (by simp [results, Tryz.results18, go_sem, c0, c1, c2, c3]) rfl ⟨[], V4.zero, false, 220, rfl, HN.out, ?_⟩
        iterate 4 refine below_here ?_ _ _
        exact hbw
end Go.Proofs.YtlhpgkaffbgkgaaGreatDoor
