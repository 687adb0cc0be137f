/- Releases: the program's ReadRelease: a walk. -/
import Derived.Test.YtlhpgkaffbgkgaaGreatDoorRec2
import Derived.Test.YtlhpgkaffbgkgaaGreatDoorOct4
namespace Go
theorem six_of {ls : List (List UInt8)} (h : ls.length = 6) : ∃ l0 l1 l2 l3 l4 l5, ls = [l0, l1, l2, l3, l4, l5] := by
  match ls, h with
  | [l0, l1, l2, l3, l4, l5], _ => exact ⟨_, _, _, _, _, _, rfl⟩
theorem parts_le {ls : List (List UInt8)} {l : List UInt8} {u : Nat} (h : Oct.tL l = (ls, u, 0)) : ∀ x ∈ ls, x.length ≤ l.length := by
  have := Oct.tL_small l
  rw [h] at this
  exact this
open Go.RowKit in
theorem below_here {B : Nat} {a w : World} (h : Below B a w) (o : Nat) (u : Value) : Below B a (w.setCell ⟨B, o, none⟩ u) := h.setCell (p := ⟨B, o, none⟩) (Nat.le_refl _) u
open Go.RowKit in
theorem box_nine {w w1 : World} {x0 x1 x2 x3 x4 x5 x6 x7 x8 : Value} {T : TypeId} (h : Below (w.heap.size + 1) (w.alloc (.cells #[x0, x1, x2, x3, x4, x5, x6, x7, x8] T)) w1) :
    (w1.cell? ⟨w.heap.size, 0, none⟩ = some x0 ∧ w1.cell? ⟨w.heap.size, 1, none⟩ = some x1 ∧ w1.cell? ⟨w.heap.size, 2, none⟩ = some x2 ∧ w1.cell? ⟨w.heap.size, 3, none⟩ = some x3 ∧ w1.cell? ⟨w.heap.size, 4, none⟩ = some x4 ∧
      w1.cell? ⟨w.heap.size, 5, none⟩ = some x5 ∧ w1.cell? ⟨w.heap.size, 6, none⟩ = some x6 ∧ w1.cell? ⟨w.heap.size, 7, none⟩ = some x7 ∧ w1.cell? ⟨w.heap.size, 8, none⟩ = some x8) ∧
    (w1.frozen? ⟨w.heap.size, 0, none⟩ = false ∧ w1.frozen? ⟨w.heap.size, 1, none⟩ = false ∧ w1.frozen? ⟨w.heap.size, 2, none⟩ = false ∧ w1.frozen? ⟨w.heap.size, 3, none⟩ = false ∧ w1.frozen? ⟨w.heap.size, 4, none⟩ = false ∧
      w1.frozen? ⟨w.heap.size, 5, none⟩ = false ∧ w1.frozen? ⟨w.heap.size, 6, none⟩ = false ∧ w1.frozen? ⟨w.heap.size, 7, none⟩ = false ∧ w1.frozen? ⟨w.heap.size, 8, none⟩ = false) :=
  ⟨⟨box_cells h 0, box_cells h 1, box_cells h 2, box_cells h 3, box_cells h 4, box_cells h 5, box_cells h 6, box_cells h 7, box_cells h 8⟩,
    box_free h 0, box_free h 1, box_free h 2, box_free h 3, box_free h 4, box_free h 5, box_free h 6, box_free h 7, box_free h 8⟩
end Go
namespace Go.Proofs.YtlhpgkaffbgkgaaGreatDoor
open Go.RowKit Go.Oct
theorem take_list_as (s : ByteArray) (w : World) (hs : s.size ≤ 100000) {ls : List (List UInt8)} {u : Nat} {er : Int} (h : tL s.data.toList = (ls, u, er)) :
    Calls Tryz.prog 27 #[.string s, .int .i64 0] w fun e w' => ∃ a cap, e = .returned (.tuple #[.slice a ls.length cap, .int .i64 (if er = 0 then (u : Int) else 0), .int .i64 er]) ∧ Strs w' (.slice a ls.length cap) ls ∧ Below w.heap.size w w' := by
  refine (take_list_any s 0 (Nat.zero_le _) hs w).mono ?_
  rintro e w' ⟨v, he, hown, hb⟩
  rw [List.drop_zero, h] at he hown
  simp only [Nat.zero_add] at he
  have hst := Strs.of_owns hown
  rcases hown.2 with ⟨rfl, h0⟩ | ⟨g, cap, cur, rfl, _⟩
  · simp only at h0
    refine ⟨none, 0, by rw [he, h0], by rw [h0]; exact hst, hb⟩
  · exact ⟨_, _, he, hst, hb⟩
theorem take_list_er (s : ByteArray) (w : World) (hs : s.size ≤ 100000) {ls : List (List UInt8)} {u : Nat} {er : Int} (h : tL s.data.toList = (ls, u, er)) (h0 : er ≠ 0) :
    Calls Tryz.prog 27 #[.string s, .int .i64 0] w fun e w' => ∃ v, e = .returned (.tuple #[v, .int .i64 0, .int .i64 er]) ∧ Below w.heap.size w w' := by
  refine (take_list_as s w hs h).mono ?_
  rintro e w' ⟨a, cap, he, _, hb⟩
  rw [if_neg h0] at he
  exact ⟨_, he, hb⟩
theorem take_list_ok (s : ByteArray) (w : World) (hs : s.size ≤ 100000) {ls : List (List UInt8)} {u : Nat} (h : tL s.data.toList = (ls, u, 0)) :
    Calls Tryz.prog 27 #[.string s, .int .i64 0] w fun e w' => ∃ a cap, e = .returned (.tuple #[.slice a ls.length cap, .int .i64 (u : Int), .int .i64 0]) ∧ Strs w' (.slice a ls.length cap) ls ∧ Below w.heap.size w w' := by
  refine (take_list_as s w hs h).mono ?_
  rintro e w' ⟨a, cap, he, hv, hb⟩
  rw [if_pos rfl] at he
  exact ⟨a, cap, he, hv, hb⟩
theorem take_list_six (s : ByteArray) (w : World) (hs : s.size ≤ 100000) {l0 l1 l2 l3 l4 l5 : List UInt8} {u : Nat} (h : tL s.data.toList = ([l0, l1, l2, l3, l4, l5], u, 0)) :
    Calls Tryz.prog 27 #[.string s, .int .i64 0] w fun e w' => ∃ b off cap, e = .returned (.tuple #[.slice (some ⟨b, off, none⟩) 6 cap, .int .i64 (u : Int), .int .i64 0]) ∧ b < w'.heap.size ∧
      (w'.cell? ⟨b, off, none⟩ = some (.string (S l0)) ∧ w'.cell? ⟨b, off + 1, none⟩ = some (.string (S l1)) ∧ w'.cell? ⟨b, off + 2, none⟩ = some (.string (S l2)) ∧ w'.cell? ⟨b, off + 3, none⟩ = some (.string (S l3)) ∧ w'.cell? ⟨b, off + 4, none⟩ = some (.string (S l4)) ∧ w'.cell? ⟨b, off + 5, none⟩ = some (.string (S l5))) ∧ Below w.heap.size w w' := by
  refine (take_list_ok s w hs h).mono ?_
  rintro e w' ⟨a, cap, he, hv, hb⟩
  obtain ⟨b, off, cap', hv1, hlt, hc⟩ := hv.full (by simp)
  injection hv1 with h1 _ h2
  subst h1 h2
  exact ⟨b, off, _, he, hlt, ⟨hc 0 (by simp), hc 1 (by simp), hc 2 (by simp), hc 3 (by simp), hc 4 (by simp), hc 5 (by simp)⟩, hb⟩
/-- the release that some bytes are, told by a call -/
def ReadPost (l : List UInt8) (w : World) (e : Ending) (w' : World) : Prop :=
  ∃ r er, e = .returned (.tuple #[.agg #[.string r.name, .int .i64 r.v.a, .int .i64 r.v.b, .int .i64 r.v.c, .string r.v.p, .string r.source, .string r.face, .bool r.yanked, .string r.note], .int .i64 er]) ∧ RelIs l r er ∧ Below w.heap.size w w'
theorem readPost_no {l : List UInt8} (h : RelIs l Rel.zero 220) {w w' : World} (hb : Below w.heap.size w w') :
    ReadPost l w (.returned (.tuple #[.agg #[.string ⟨#[]⟩, .int .i64 0, .int .i64 0, .int .i64 0, .string ⟨#[]⟩, .string ⟨#[]⟩, .string ⟨#[]⟩, .bool false, .string ⟨#[]⟩], .int .i64 220])) w' := ⟨Rel.zero, 220, rfl, h, hb⟩
set_option maxRecDepth 100000 in
set_option maxHeartbeats 1000000 in
theorem readRelease_any (s : ByteArray) (w : World) (hE : REnv w) (hs : s.size ≤ 100000) : Calls Tryz.prog 11 #[.string s] w (ReadPost s.data.toList w) := by
  have HE := Lib.hid hE
  have hW := (Below.refl w.heap.size w).alloc (Nat.le_refl _) (.cells #[.string ⟨#[]⟩, .int .i64 0, .int .i64 0, .int .i64 0, .string ⟨#[]⟩, .string ⟨#[]⟩, .string ⟨#[]⟩, .bool false, .string ⟨#[]⟩] 25)
  obtain ⟨ls, u, er, hT⟩ : ∃ ls u er, tL s.data.toList = (ls, u, er) := ⟨_, _, _, rfl⟩
  have HLn := Lib.hid (Lib.size_eq s)
  have HT := Lib.hid hT
  clear hE hT
  by_cases h0 : er = 0
  rotate_left
  · have HN := Lib.hid (relIs_er (l := s.data.toList) (by rw [HT.out]; exact h0))
    have q1 : (er != 0) = true := by simpa using h0
    have HTL := Lib.hid (fun w => take_list_er s w hs HT.out h0)
    clear h0
    go_enter Tryz.func11, Tryz.ntmps11
    go_wp2_with fail
    refine (HTL.out _).mono ?_
    rintro e w1 ⟨v, rfl, hb1⟩
    have hx := box_of hb1
    obtain ⟨⟨c0, c1, c2, c3, c4, c5, c6, c7, c8⟩, ⟨f0, f1, f2, f3, f4, f5, f6, f7, f8⟩⟩ := box_nine hx
    have hz := cell_lt c0
    have hb2 := below_then hW hb1
    go_wp2_with fail
    refine bodyPost_ret (v := .tuple #[.agg #[.string ⟨#[]⟩, .int .i64 0, .int .i64 0, .int .i64 0, .string ⟨#[]⟩, .string ⟨#[]⟩, .string ⟨#[]⟩, .bool false, .string ⟨#[]⟩], .int .i64 220]) (by simp [results, Tryz.results11, go_sem, c0, c1, c2, c3, c4, c5, c6, c7, c8]) rfl (readPost_no HN.out ?_)
    iterate 9 refine below_here ?_ _ _
    exact hb2
  subst h0
  have HTL := Lib.hid (fun w => take_list_ok s w hs HT.out)
  by_cases hu : u = s.size
  rotate_left
  · have HN := Lib.hid (relIs_long HT.out (by rw [← HLn.out]; exact hu))
    have q1 : ((u : Int) != (s.size : Int)) = true := by rw [bne_iff_ne]; omega
    clear hu
    go_enter Tryz.func11, Tryz.ntmps11
    go_wp2_with fail
    refine (HTL.out _).mono ?_
    rintro e w1 ⟨a, cap, rfl, hv, hb1⟩
    have hx := box_of hb1
    obtain ⟨⟨c0, c1, c2, c3, c4, c5, c6, c7, c8⟩, ⟨f0, f1, f2, f3, f4, f5, f6, f7, f8⟩⟩ := box_nine hx
    have hz := cell_lt c0
    have hb2 := below_then hW hb1
    clear hv
    go_wp2_with fail
    refine bodyPost_ret (v := .tuple #[.agg #[.string ⟨#[]⟩, .int .i64 0, .int .i64 0, .int .i64 0, .string ⟨#[]⟩, .string ⟨#[]⟩, .string ⟨#[]⟩, .bool false, .string ⟨#[]⟩], .int .i64 220]) (by simp [results, Tryz.results11, go_sem, c0, c1, c2, c3, c4, c5, c6, c7, c8]) rfl (readPost_no HN.out ?_)
    iterate 9 refine below_here ?_ _ _
    exact hb2
  subst hu
  have q1 : ((s.size : Int) != (s.size : Int)) = false := by rw [bne_eq_false_iff_eq]
  by_cases h6 : ls.length = 6
  rotate_left
  · have HN := Lib.hid (relIs_count HT.out h6)
    have q2 : ((ls.length : Int) != 6) = true := by rw [bne_iff_ne]; omega
    clear h6
    go_enter Tryz.func11, Tryz.ntmps11
    go_wp2_with fail
    refine (HTL.out _).mono ?_
    rintro e w1 ⟨a, cap, rfl, hv, hb1⟩
    have hx := box_of hb1
    obtain ⟨⟨c0, c1, c2, c3, c4, c5, c6, c7, c8⟩, ⟨f0, f1, f2, f3, f4, f5, f6, f7, f8⟩⟩ := box_nine hx
    have hz := cell_lt c0
    have hb2 := below_then hW hb1
    clear hv
    go_wp2_with fail
    refine bodyPost_ret (v := .tuple #[.agg #[.string ⟨#[]⟩, .int .i64 0, .int .i64 0, .int .i64 0, .string ⟨#[]⟩, .string ⟨#[]⟩, .string ⟨#[]⟩, .bool false, .string ⟨#[]⟩], .int .i64 220]) (by simp [results, Tryz.results11, go_sem, c0, c1, c2, c3, c4, c5, c6, c7, c8]) rfl (readPost_no HN.out ?_)
    iterate 9 refine below_here ?_ _ _
    exact hb2
  obtain ⟨l0, l1, l2, l3, l4, l5, rfl⟩ := six_of h6
  have hsm := parts_le HT.out
  have hl1 : l1.length ≤ 100000 := by have := hsm l1 (by simp); rw [← HLn.out] at this; omega
  have HTL6 := Lib.hid (fun w => take_list_six s w hs HT.out)
  clear h6 hsm HTL
  go_enter Tryz.func11, Tryz.ntmps11
  go_wp2_with fail
  refine (HTL6.out _).mono ?_
  rintro e w1 ⟨b, off, cap, rfl, hbl, ⟨d0, d1, d2, d3, d4, d5⟩, hb1⟩
  have hx := box_of hb1
  have hb2 := below_then hW hb1
  go_wp2_with fail
  refine (parse_any (S l1) _ (HE.out.below hb2).env (by rw [S_size]; omega)).mono ?_
  rintro e w2 ⟨x, y, z, p, er, rfl, hP, hb3⟩
  have HP := Lib.hid hP
  have hx3 := box_then hx hb3
  have hb4 := below_then hb2 hb3
  have e0 := (hb3.cell (p := ⟨b, off, none⟩) hbl).trans d0
  have e2 := (hb3.cell (p := ⟨b, off + 2, none⟩) hbl).trans d2
  have e3 := (hb3.cell (p := ⟨b, off + 3, none⟩) hbl).trans d3
  have e4 := (hb3.cell (p := ⟨b, off + 4, none⟩) hbl).trans d4
  have e5 := (hb3.cell (p := ⟨b, off + 5, none⟩) hbl).trans d5
  have hbl2 : b < w2.heap.size := Nat.lt_of_lt_of_le hbl hb3.size
  clear hP d0 d1 d2 d3 d4 d5
  rcases HP.out with ⟨rfl, hS⟩ | ⟨rfl, rfl, rfl, rfl, rfl, hno⟩
  rotate_left
  · have HN := Lib.hid (relIs_ver HT.out hno)
    obtain ⟨⟨c0, c1, c2, c3, c4, c5, c6, c7, c8⟩, ⟨f0, f1, f2, f3, f4, f5, f6, f7, f8⟩⟩ := box_nine hx3
    have hz := cell_lt c0
    clear hno
    go_wp2_with fail
    refine bodyPost_ret (v := .tuple #[.agg #[.string ⟨#[]⟩, .int .i64 0, .int .i64 0, .int .i64 0, .string ⟨#[]⟩, .string ⟨#[]⟩, .string ⟨#[]⟩, .bool false, .string ⟨#[]⟩], .int .i64 220]) (by simp [results, Tryz.results11, go_sem, c0, c1, c2, c3, c4, c5, c6, c7, c8, hz]) rfl (readPost_no HN.out ?_)
    refine Below.alloc ?_ (by simp; exact hb4.size) _
    iterate 9 refine below_here ?_ _ _
    exact hb4
  have HS := Lib.hid hS
  obtain ⟨ye, hye⟩ : ∃ ye, l4.isEmpty = ye := ⟨_, rfl⟩
  have hye' : (S l4).toList.isEmpty = ye := by rw [S_toList]; exact hye
  have HY := Lib.hid hye
  clear hS hye
  have v0 : (w2.alloc (.cells #[.int .i64 x, .int .i64 y, .int .i64 z, .string (S p)] 23)).cell? ⟨w2.heap.size, 0, none⟩ = some (.int .i64 x) := box_cells ((Below.refl (w2.heap.size + 1) (w2.alloc (.cells #[.int .i64 x, .int .i64 y, .int .i64 z, .string (S p)] 23)))) 0
  have v1 : (w2.alloc (.cells #[.int .i64 x, .int .i64 y, .int .i64 z, .string (S p)] 23)).cell? ⟨w2.heap.size, 1, none⟩ = some (.int .i64 y) := box_cells ((Below.refl (w2.heap.size + 1) (w2.alloc (.cells #[.int .i64 x, .int .i64 y, .int .i64 z, .string (S p)] 23)))) 1
  have v2 : (w2.alloc (.cells #[.int .i64 x, .int .i64 y, .int .i64 z, .string (S p)] 23)).cell? ⟨w2.heap.size, 2, none⟩ = some (.int .i64 z) := box_cells ((Below.refl (w2.heap.size + 1) (w2.alloc (.cells #[.int .i64 x, .int .i64 y, .int .i64 z, .string (S p)] 23)))) 2
  have v3 : (w2.alloc (.cells #[.int .i64 x, .int .i64 y, .int .i64 z, .string (S p)] 23)).cell? ⟨w2.heap.size, 3, none⟩ = some (.string (S p)) := box_cells ((Below.refl (w2.heap.size + 1) (w2.alloc (.cells #[.int .i64 x, .int .i64 y, .int .i64 z, .string (S p)] 23)))) 3
  have hal : Below w2.heap.size w2 (w2.alloc (.cells #[.int .i64 x, .int .i64 y, .int .i64 z, .string (S p)] 23)) := (Below.refl _ _).alloc (Nat.le_refl _) _
  have hx5 := box_then hx3 hal
  have hb5 := below_then hb4 hal
  have e0 := (hal.cell (p := ⟨b, off, none⟩) hbl2).trans e0
  have e2 := (hal.cell (p := ⟨b, off + 2, none⟩) hbl2).trans e2
  have e3 := (hal.cell (p := ⟨b, off + 3, none⟩) hbl2).trans e3
  have e4 := (hal.cell (p := ⟨b, off + 4, none⟩) hbl2).trans e4
  have e5 := (hal.cell (p := ⟨b, off + 5, none⟩) hbl2).trans e5
  go_wp2_with fail
  obtain ⟨B2, hB2⟩ : ∃ B2, w2.heap.size = B2 := ⟨_, rfl⟩
  rw [hB2] at v0 v1 v2 v3
  rw [hB2]
  generalize w2.alloc (.cells #[.int .i64 x, .int .i64 y, .int .i64 z, .string (S p)] 23) = w3 at v0 v1 v2 v3 e0 e2 e3 e4 e5 hal hx5 hb5 ⊢
  clear hal hb1 hb2 hb3 hb4 hx hx3 hbl hbl2 hB2
  have hd0 : Below w3.heap.size w3 w3.drew := (Below.refl _ _).drew
  have hd1 := ((Below.refl w3.heap.size w3).alloc (Nat.le_refl _) (.cells #[.string ⟨#[]⟩, .int .i64 0, .int .i64 0, .int .i64 0, .string ⟨#[]⟩, .string ⟨#[]⟩, .string ⟨#[]⟩, .bool false, .string ⟨#[]⟩] 25)).drew
  have hd2 := ((Below.refl w3.heap.size w3).alloc (Nat.le_refl _) (.cells #[.string (S l0), .int .i64 x, .int .i64 y, .int .i64 z, .string (S p), .string (S l2), .string (S l3), .bool !ye, .string (S l5)] 25)).drew
  go_region_held3 (fun w' => w'.cell? ⟨b, off, none⟩ = some (.string (S l0)) ∧ w'.cell? ⟨b, off + 2, none⟩ = some (.string (S l2)) ∧ w'.cell? ⟨b, off + 3, none⟩ = some (.string (S l3)) ∧ w'.cell? ⟨b, off + 4, none⟩ = some (.string (S l4)) ∧ w'.cell? ⟨b, off + 5, none⟩ = some (.string (S l5)) ∧
      w'.cell? ⟨B2, 0, none⟩ = some (.int .i64 x) ∧ w'.cell? ⟨B2, 1, none⟩ = some (.int .i64 y) ∧ w'.cell? ⟨B2, 2, none⟩ = some (.int .i64 z) ∧ w'.cell? ⟨B2, 3, none⟩ = some (.string (S p)) ∧ Below w3.heap.size w3 w') (go_keep) (fail)
  have hb6 : Below w.heap.size w (w3.alloc (.cells #[.string (S l0), .int .i64 x, .int .i64 y, .int .i64 z, .string (S p), .string (S l2), .string (S l3), .bool !ye, .string (S l5)] 25)).drew := below_then hb5 hd2
  have hx6 := box_then hx5 hd2
  have hps : p.length ≤ 24 := (verOk_bounds HS.out.1).2.2.2.2.2.2.1
  obtain ⟨R, hR⟩ : ∃ R : Rel, R = ⟨S l0, ⟨x, y, z, S p⟩, S l2, S l3, !ye, S l5⟩ := ⟨_, rfl⟩
  have HR := Lib.hid hR
  have HC := fun W (hW : REnv W) => release_any ⟨S l0, ⟨x, y, z, S p⟩, S l2, S l3, !ye, S l5⟩ W hW (by rw [S_size]; omega)
  simp only at HC
  rw [← hR] at HC
  have HNot : ¬ (R.ok = true ∧ R.text = s.data.toList) → RelIs s.data.toList Rel.zero 220 := fun h => relIs_not HT.out (v := ⟨x, y, z, S p⟩) (b := !ye) HS.out (fun c hc => by rw [← HY.out]; exact yank_some _ c hc) (by rw [← hR]; exact h)
  clear hR e0 e2 e3 e4 e5 v0 v1 v2 v3 hd0 hd1 hd2
  by_cases hok : R.ok = true
  rotate_left
  · have HN := Lib.hid (HNot (fun h => hok h.1))
    have HC := Lib.hid (fun W hW => (HC W hW).mono fun e w' (h : RelPost R W e w') => (⟨by rw [h.1, relShow_no (by simpa using hok)]; rfl, h.2⟩ : e = .returned (.tuple #[.string ⟨#[]⟩, .int .i64 220]) ∧ Below W.heap.size W w'))
    clear hok HNot
    go_wp2_with fail
    refine (HC.out _ (HE.out.below hb6)).mono ?_
    rintro e w5 ⟨rfl, hb7⟩
    have hx7 := box_then hx6 hb7
    have hb8 := below_then hb6 hb7
    obtain ⟨⟨c0, c1, c2, c3, c4, c5, c6, c7, c8⟩, ⟨f0, f1, f2, f3, f4, f5, f6, f7, f8⟩⟩ := box_nine hx7
    have hz := cell_lt c0
    go_wp2_with fail
    refine bodyPost_ret (v := .tuple #[.agg #[.string ⟨#[]⟩, .int .i64 0, .int .i64 0, .int .i64 0, .string ⟨#[]⟩, .string ⟨#[]⟩, .string ⟨#[]⟩, .bool false, .string ⟨#[]⟩], .int .i64 220]) (by simp [results, Tryz.results11, go_sem, c0, c1, c2, c3, c4, c5, c6, c7, c8]) rfl (readPost_no HN.out ?_)
    iterate 9 refine below_here ?_ _ _
    exact hb8
  obtain ⟨A, hA⟩ : ∃ A, S R.text = A := ⟨_, rfl⟩
  have HC := Lib.hid (fun W hW => (HC W hW).mono fun e w' (h : RelPost R W e w') => (⟨by rw [h.1, relShow_yes hok, ← hA], h.2⟩ : e = .returned (.tuple #[.string A, .int .i64 0]) ∧ Below W.heap.size W w'))
  by_cases ht : R.text = s.data.toList
  rotate_left
  · have HN := Lib.hid (HNot (fun h => ht h.2))
    have q5 : (A.toList == s.toList) = false := by
      rw [beq_eq_false_iff_ne, ← hA, S_toList, Lib.toList_data]; exact ht
    clear hok HNot hA ht
    go_wp2_with fail
    refine (HC.out _ (HE.out.below hb6)).mono ?_
    rintro e w5 ⟨rfl, hb7⟩
    have hx7 := box_then hx6 hb7
    have hb8 := below_then hb6 hb7
    obtain ⟨⟨c0, c1, c2, c3, c4, c5, c6, c7, c8⟩, ⟨f0, f1, f2, f3, f4, f5, f6, f7, f8⟩⟩ := box_nine hx7
    have hz := cell_lt c0
    go_wp2_with fail
    refine bodyPost_ret (v := .tuple #[.agg #[.string ⟨#[]⟩, .int .i64 0, .int .i64 0, .int .i64 0, .string ⟨#[]⟩, .string ⟨#[]⟩, .string ⟨#[]⟩, .bool false, .string ⟨#[]⟩], .int .i64 220]) (by simp [results, Tryz.results11, go_sem, c0, c1, c2, c3, c4, c5, c6, c7, c8]) rfl (readPost_no HN.out ?_)
    iterate 9 refine below_here ?_ _ _
    exact hb8
  have HN := Lib.hid (relIs_fit hok ht)
  have q5 : (A.toList == s.toList) = true := by
    rw [beq_iff_eq, ← hA, S_toList, Lib.toList_data]; exact ht
  clear hok HNot hA ht
  go_wp2_with fail
  refine (HC.out _ (HE.out.below hb6)).mono ?_
  rintro e w5 ⟨rfl, hb7⟩
  have hx7 := box_then hx6 hb7
  have hb8 := below_then hb6 hb7
  obtain ⟨⟨c0, c1, c2, c3, c4, c5, c6, c7, c8⟩, ⟨f0, f1, f2, f3, f4, f5, f6, f7, f8⟩⟩ := box_nine hx7
  have hz := cell_lt c0
  obtain ⟨⟨g0, g1, g2, g3, g4, g5, g6, g7, g8⟩, _⟩ := box_nine (box_of_drew hb7)
  have hz3 : w.heap.size < w3.heap.size := by have := hx5.size; simp at this; omega
  go_wp2_with fail
  refine bodyPost_ret (v := .tuple #[.agg #[.string (S l0), .int .i64 x, .int .i64 y, .int .i64 z, .string (S p), .string (S l2), .string (S l3), .bool !ye, .string (S l5)], .int .i64 0]) (by simp [results, Tryz.results11, go_sem, c0, c1, c2, c3, c4, c5, c6, c7, c8]) rfl ⟨R, 0, by rw [HR.out], HN.out, ?_⟩
  iterate 9 refine below_here ?_ _ _
  exact hb8
end Go.Proofs.YtlhpgkaffbgkgaaGreatDoor
