/- The reference's records: Release: a walk. -/
import Derived.Test.YtlhpgkaffbgkgaaGreatDoorRecRef1
import Derived.Test.YtlhpgkaffbgkgaaGreatDoorLex2
namespace Go.Proofs.YtlhpgkaffbgkgaaGreatDoor
open Go.RowKit
set_option maxRecDepth 100000 in
set_option maxHeartbeats 4000000 in
theorem rrelease_any (r : Rel) (w : World) (hs : r.v.p.size ≤ 9223372036854775807) :
    Calls Tryz.prog 9 #[.agg #[.string r.name, .int .i64 r.v.a, .int .i64 r.v.b, .int .i64 r.v.c, .string r.v.p, .string r.source, .string r.face, .bool r.yanked, .string r.note]] w (RelPost r w) := by
  obtain ⟨name, v, source, face, y, note⟩ := r
  obtain ⟨a, b, c, p⟩ := v
  have hW := (Below.refl w.heap.size w).alloc (Nat.le_refl _) (.cells #[.string name, .int .i64 a, .int .i64 b, .int .i64 c, .string p, .string source, .string face, .bool y, .string note] 25)
  simp only at hs ⊢
  rcases shows_cases ⟨a, b, c, p⟩ with ⟨hsh, hok⟩ | ⟨hsh, hok⟩
  rotate_left
  · have HN : Hid ((⟨name, ⟨a, b, c, p⟩, source, face, y, note⟩ : Rel).ok = false) := by show _ = _; unfold Rel.ok; simp only; rw [hok]; rfl
    have HS := Lib.hid hsh
    clear hsh hok
    go_enter Tryz.func9, Tryz.ntmps9
    go_wp2_with fail
    refine (rshowV ⟨a, b, c, p⟩ _ _ HS.out _ hs).mono ?_
    rintro e w1 ⟨rfl, hb1⟩
    go_wp2_with fail
    go_ret2
    exact relPost_no HN.out (below_then hW hb1)
  obtain ⟨t, ht⟩ : ∃ t, S (V4.show ⟨a, b, c, p⟩) = t := ⟨_, rfl⟩
  rw [ht] at hsh
  have HT := Lib.hid ht
  have HS := Lib.hid hsh
  have HOk := Lib.hid hok
  clear ht hsh hok
  obtain ⟨n0, hn0⟩ : ∃ n0, nameOk name.data.toList = n0 := ⟨_, rfl⟩
  have HNm := Lib.hid hn0
  clear hn0
  cases n0
  · have HN : Hid ((⟨name, ⟨a, b, c, p⟩, source, face, y, note⟩ : Rel).ok = false) := by show _ = _; unfold Rel.ok; simp only; rw [HNm.out, Bool.and_false]; rfl
    go_enter Tryz.func9, Tryz.ntmps9
    go_wp2_with fail
    refine (rshowV ⟨a, b, c, p⟩ _ _ HS.out _ hs).mono ?_
    rintro e w1 ⟨rfl, hb1⟩
    have hx := box_of hb1
    have c0 := box_cells hx 0
    simp at c0
    go_wp2_with fail
    refine (rname_as name false HNm.out _).mono ?_
    rintro e w2 ⟨rfl, hb2⟩
    have hx2 := box_then hx hb2
    have hbn := below_then hW hb1
    have hbm := below_then hbn hb2
    clear c0
    have c0 := box_cells hx2 0
    simp at c0
    go_wp2_with fail
    go_ret2
    exact relPost_no HN.out hbm
  by_cases h1 : source.size ≤ 4096
  rotate_left
  · have HN : Hid ((⟨name, ⟨a, b, c, p⟩, source, face, y, note⟩ : Rel).ok = false) := by show _ = _; unfold Rel.ok; simp only; rw [decide_eq_false h1, Bool.and_false]; rfl
    have q1 : decide ((4096 : Int) < (source.size : Int)) = true := by simp; omega
    clear h1
    go_enter Tryz.func9, Tryz.ntmps9
    go_wp2_with fail
    refine (rshowV ⟨a, b, c, p⟩ _ _ HS.out _ hs).mono ?_
    rintro e w1 ⟨rfl, hb1⟩
    have hx := box_of hb1
    have c0 := box_cells hx 0
    have c5 := box_cells hx 5
    simp at c0 c5
    go_wp2_with fail
    refine (rname_as name true HNm.out _).mono ?_
    rintro e w2 ⟨rfl, hb2⟩
    have hx2 := box_then hx hb2
    have hbn := below_then hW hb1
    have hbm := below_then hbn hb2
    clear c0 c5
    have c0 := box_cells hx2 0
    have c5 := box_cells hx2 5
    simp at c0 c5
    go_wp2_with fail
    go_ret2
    exact relPost_no HN.out hbm
  have q1 : decide ((4096 : Int) < (source.size : Int)) = false := by simp; omega
  by_cases h2 : face.size ≤ 3000
  rotate_left
  · have HN : Hid ((⟨name, ⟨a, b, c, p⟩, source, face, y, note⟩ : Rel).ok = false) := by show _ = _; unfold Rel.ok; simp only; rw [decide_eq_false h2, Bool.and_false]; rfl
    have q2 : decide ((3000 : Int) < (face.size : Int)) = true := by simp; omega
    clear h1 h2
    go_enter Tryz.func9, Tryz.ntmps9
    go_wp2_with fail
    refine (rshowV ⟨a, b, c, p⟩ _ _ HS.out _ hs).mono ?_
    rintro e w1 ⟨rfl, hb1⟩
    have hx := box_of hb1
    have c0 := box_cells hx 0
    have c5 := box_cells hx 5
    have c6 := box_cells hx 6
    simp at c0 c5 c6
    go_wp2_with fail
    refine (rname_as name true HNm.out _).mono ?_
    rintro e w2 ⟨rfl, hb2⟩
    have hx2 := box_then hx hb2
    have hbn := below_then hW hb1
    have hbm := below_then hbn hb2
    clear c0 c5 c6
    have c0 := box_cells hx2 0
    have c5 := box_cells hx2 5
    have c6 := box_cells hx2 6
    simp at c0 c5 c6
    go_wp2_with fail
    go_ret2
    exact relPost_no HN.out hbm
  have q2 : decide ((3000 : Int) < (face.size : Int)) = false := by simp; omega
  obtain ⟨n1, hn1⟩ : ∃ n1, noteB note.data.toList = n1 := ⟨_, rfl⟩
  have HNo := Lib.hid hn1
  clear hn1
  cases n1
  · have HN : Hid ((⟨name, ⟨a, b, c, p⟩, source, face, y, note⟩ : Rel).ok = false) := by show _ = _; unfold Rel.ok; simp only; rw [HNo.out, Bool.and_false]
    clear h1 h2
    go_enter Tryz.func9, Tryz.ntmps9
    go_wp2_with fail
    refine (rshowV ⟨a, b, c, p⟩ _ _ HS.out _ hs).mono ?_
    rintro e w1 ⟨rfl, hb1⟩
    have hx := box_of hb1
    have c0 := box_cells hx 0
    have c5 := box_cells hx 5
    have c6 := box_cells hx 6
    have c8 := box_cells hx 8
    simp at c0 c5 c6 c8
    go_wp2_with fail
    refine (rname_as name true HNm.out _).mono ?_
    rintro e w2 ⟨rfl, hb2⟩
    have hx2 := box_then hx hb2
    have hbn := below_then hW hb1
    have hbm := below_then hbn hb2
    clear c0 c5 c6 c8
    have c0 := box_cells hx2 0
    have c5 := box_cells hx2 5
    have c6 := box_cells hx2 6
    have c8 := box_cells hx2 8
    simp at c0 c5 c6 c8
    go_wp2_with fail
    refine (rnote_as note false HNo.out _).mono ?_
    rintro e w3 ⟨rfl, hb3⟩
    go_wp2_with fail
    go_ret2
    exact relPost_no HN.out (below_then hbm hb3)
  have HN : Hid ((⟨name, ⟨a, b, c, p⟩, source, face, y, note⟩ : Rel).ok = true) := by
    show _ = _
    unfold Rel.ok
    simp only
    rw [HOk.out, HNm.out, HNo.out, decide_eq_true h1, decide_eq_true h2]; rfl
  have HL := Lib.hid (rel_small HN.out)
  have HSt : Hid (V4.show ⟨a, b, c, p⟩ = t.data.toList) := by show _ = _; rw [← HT.out]; rfl
  clear h1 h2
  cases y
  all_goals
    go_enter Tryz.func9, Tryz.ntmps9
    go_wp2_with fail
    refine (rshowV ⟨a, b, c, p⟩ _ _ HS.out _ hs).mono ?_
    rintro e w1 ⟨rfl, hb1⟩
    have hx := box_of hb1
    have c0 := box_cells hx 0
    have c5 := box_cells hx 5
    have c6 := box_cells hx 6
    have c8 := box_cells hx 8
    simp at c0 c5 c6 c8
    go_wp2_with fail
    refine (rname_as name true HNm.out _).mono ?_
    rintro e w2 ⟨rfl, hb2⟩
    have hx2 := box_then hx hb2
    have hbn := below_then hW hb1
    have hbm := below_then hbn hb2
    clear c0 c5 c6 c8
    have c0 := box_cells hx2 0
    have c5 := box_cells hx2 5
    have c6 := box_cells hx2 6
    have c8 := box_cells hx2 8
    simp at c0 c5 c6 c8
    go_wp2_with fail
    refine (rnote_as note true HNo.out _).mono ?_
    rintro e w3 ⟨rfl, hb3⟩
    have hx3 := box_then hx2 hb3
    clear c0 c5 c6 c8
    have c0 := box_cells hx3 0
    have c5 := box_cells hx3 5
    have c6 := box_cells hx3 6
    have c7 := box_cells hx3 7
    have c8 := box_cells hx3 8
    simp at c0 c5 c6 c7 c8
    have hz3 := cell_lt c0
    have hb4 := below_then hbm hb3
    go_wp2_with fail
  · refine (rlist_any _ 0 6 [name.data.toList, t.data.toList, source.data.toList, face.data.toList, [], note.data.toList] _ (strs_new w3 _ 9 6 _ 6 _ rfl rfl rfl (by simp) (by unfold maxLen; simp)) (by simp) ?_ (by simp)).mono ?_
    · intro l hl
      have := HL.out l (by unfold Rel.parts; rw [HSt.out]; exact hl)
      omega
    · rintro e w5 ⟨rfl, hb5⟩
      go_wp2_with fail
      go_ret2
      exact relPost_yes HN.out (by unfold Rel.text Rel.parts; rw [HSt.out]; rfl) (below_then (hb4.alloc hb4.size _) hb5)
  · refine (rlist_any _ 0 6 [name.data.toList, t.data.toList, source.data.toList, face.data.toList, [89], note.data.toList] _ (strs_new w3 _ 9 6 _ 6 _ rfl rfl rfl (by simp) (by unfold maxLen; simp)) (by simp) ?_ (by simp)).mono ?_
    · intro l hl
      have := HL.out l (by unfold Rel.parts; rw [HSt.out]; exact hl)
      omega
    · rintro e w5 ⟨rfl, hb5⟩
      go_wp2_with fail
      go_ret2
      exact relPost_yes HN.out (by unfold Rel.text Rel.parts; rw [HSt.out]; rfl) (below_then (hb4.alloc hb4.size _) hb5)
end Go.Proofs.YtlhpgkaffbgkgaaGreatDoor
