/- Releases: the program's Release: walks. -/
import Derived.Test.YtlhpgkaffbgkgaaGreatDoorRec1
import Derived.Test.YtlhpgkaffbgkgaaGreatDoorOct5
import Derived.Test.YtlhpgkaffbgkgaaGreatDoorLex2
import Derived.Test.YtlhpgkaffbgkgaaGreatDoorSemProg4
namespace Go
/-- what a version is shown as: its text, the error -/
def ShowsAs (v : V4) (t : ByteArray) (e : Int) : Prop := (v.ok = true ∧ v.show = t.data.toList ∧ e = 0) ∨ (v.ok = false ∧ t = ⟨#[]⟩ ∧ e = 40)
theorem shows_cases (v : V4) : ShowsAs v (S v.show) 0 ∧ v.ok = true ∨ ShowsAs v ⟨#[]⟩ 40 ∧ v.ok = false := by
  cases h : v.ok
  · exact .inr ⟨.inr ⟨h, rfl, rfl⟩, rfl⟩
  · exact .inl ⟨.inl ⟨h, rfl, rfl⟩, rfl⟩
end Go
namespace Go.Proofs.YtlhpgkaffbgkgaaGreatDoor
open Go.RowKit
theorem showV (v : V4) (t : ByteArray) (e0 : Int) (h : ShowsAs v t e0) (w : World) (hE : Env w) (hs : v.p.size ≤ 9223372036854775807) :
    Calls Tryz.prog 19 #[.agg #[.int .i64 v.a, .int .i64 v.b, .int .i64 v.c, .string v.p]] w fun e w' => e = .returned (.tuple #[.string t, .int .i64 e0]) ∧ Below w.heap.size w w' := by
  rcases h with ⟨h, ht, rfl⟩ | ⟨h, rfl, rfl⟩
  · obtain ⟨a, b, c, p⟩ := v
    obtain ⟨h1, h2, h3, h4, h5, h6, h7, _⟩ := verOk_bounds h
    simp only at h1 h2 h3 h4 h5 h6 h7
    obtain ⟨a, rfl⟩ := Int.eq_ofNat_of_zero_le h1
    obtain ⟨b, rfl⟩ := Int.eq_ofNat_of_zero_le h3
    obtain ⟨c, rfl⟩ := Int.eq_ofNat_of_zero_le h5
    have e1 : verErr (a : Int) (b : Int) (c : Int) p.data.toList = 0 := by unfold verErr; exact if_pos h
    have e2 : S (showL a b c p.data.toList) = t := by rw [← S_of t, ← ht]; rfl
    refine (show_yes a b c p w hE (by rw [Lib.size_eq]; exact h7) (by omega) (by omega) (by omega) e1).mono ?_
    rintro e w1 ⟨rfl, hb⟩
    exact ⟨by rw [e2], hb⟩
  · exact show_no v.a v.b v.c v.p w hE hs (by unfold verErr; exact if_neg (by rw [show verOk v.a v.b v.c v.p.data.toList = v.ok from rfl, h]; decide))
/-- what a world must hold for the records -/
structure REnv (w : World) : Prop where
  env : Env w
  tab : Lib.Utf8Tabs 0 1 w
theorem REnv.below {w w' : World} (h : REnv w) (hb : Below w.heap.size w w') : REnv w' := ⟨h.env.below hb, Utf8Tabs_below h.tab hb⟩
def RelPost (r : Rel) (w : World) (e : Ending) (w' : World) : Prop := e = .returned (.tuple #[.string (S (relShow r).1), .int .i64 (relShow r).2]) ∧ Below w.heap.size w w'
theorem relPost_no {r : Rel} (h : r.ok = false) {w w' : World} (hb : Below w.heap.size w w') : RelPost r w (.returned (.tuple #[.string ⟨#[]⟩, .int .i64 220])) w' := ⟨by rw [relShow_no h]; rfl, hb⟩
theorem relPost_yes {r : Rel} (h : r.ok = true) {w w' : World} {l : List UInt8} (hl : r.text = l) (hb : Below w.heap.size w w') : RelPost r w (.returned (.tuple #[.string (S l), .int .i64 0])) w' := ⟨by rw [relShow_yes h, hl], hb⟩
set_option maxRecDepth 100000 in
set_option maxHeartbeats 4000000 in
theorem release_any (r : Rel) (w : World) (hE : REnv w) (hs : r.v.p.size ≤ 9223372036854775807) :
    Calls Tryz.prog 8 #[.agg #[.string r.name, .int .i64 r.v.a, .int .i64 r.v.b, .int .i64 r.v.c, .string r.v.p, .string r.source, .string r.face, .bool r.yanked, .string r.note]] w (RelPost r w) := by
  obtain ⟨name, v, source, face, y, note⟩ := r
  obtain ⟨a, b, c, p⟩ := v
  have HE := Lib.hid hE
  have hW := (Below.refl w.heap.size w).alloc (Nat.le_refl _) (.cells #[.string name, .int .i64 a, .int .i64 b, .int .i64 c, .string p, .string source, .string face, .bool y, .string note] 25)
  clear hE
  simp only at hs ⊢
  rcases shows_cases ⟨a, b, c, p⟩ with ⟨hsh, hok⟩ | ⟨hsh, hok⟩
  rotate_left
  · have HN : Hid ((⟨name, ⟨a, b, c, p⟩, source, face, y, note⟩ : Rel).ok = false) := by show _ = _; unfold Rel.ok; simp only; rw [hok]; rfl
    have HS := Lib.hid hsh
    clear hsh hok
    go_enter Tryz.func8, Tryz.ntmps8
    go_wp2_with fail
    refine (showV ⟨a, b, c, p⟩ _ _ HS.out _ (HE.out.below hW).env hs).mono ?_
    rintro e w1 ⟨rfl, hb1⟩
    go_wp2_with fail
    go_ret2
    exact relPost_no HN.out (below_then hW hb1)
  obtain ⟨t, ht⟩ : ∃ t, S (V4.show ⟨a, b, c, p⟩) = t := ⟨_, rfl⟩
  rw [ht] at hsh
  have HT := Lib.hid ht
  have HS := Lib.hid hsh
  have HOk := Lib.hid hok
  clear ht hsh hok
  obtain ⟨n0, hn0⟩ : ∃ n0, nameOk name.data.toList = n0 := ⟨_, rfl⟩
  have HNm := Lib.hid hn0
  clear hn0
  cases n0
  · have HN : Hid ((⟨name, ⟨a, b, c, p⟩, source, face, y, note⟩ : Rel).ok = false) := by show _ = _; unfold Rel.ok; simp only; rw [HNm.out, Bool.and_false]; rfl
    go_enter Tryz.func8, Tryz.ntmps8
    go_wp2_with fail
    refine (showV ⟨a, b, c, p⟩ _ _ HS.out _ (HE.out.below hW).env hs).mono ?_
    rintro e w1 ⟨rfl, hb1⟩
    have hx := box_of hb1
    have c0 := box_cells hx 0
    simp at c0
    go_wp2_with fail
    refine (lname_as name false HNm.out _).mono ?_
    rintro e w2 ⟨rfl, rfl⟩
    go_wp2_with fail
    go_ret2
    exact relPost_no HN.out (below_then hW hb1)
  by_cases h1 : source.size ≤ 4096
  rotate_left
  · have HN : Hid ((⟨name, ⟨a, b, c, p⟩, source, face, y, note⟩ : Rel).ok = false) := by show _ = _; unfold Rel.ok; simp only; rw [decide_eq_false h1, Bool.and_false]; rfl
    have q1 : decide ((4096 : Int) < (source.size : Int)) = true := by simp; omega
    clear h1
    go_enter Tryz.func8, Tryz.ntmps8
    go_wp2_with fail
    refine (showV ⟨a, b, c, p⟩ _ _ HS.out _ (HE.out.below hW).env hs).mono ?_
    rintro e w1 ⟨rfl, hb1⟩
    have hx := box_of hb1
    have c0 := box_cells hx 0
    have c5 := box_cells hx 5
    simp at c0 c5
    go_wp2_with fail
    refine (lname_as name true HNm.out _).mono ?_
    rintro e w2 ⟨rfl, rfl⟩
    go_wp2_with fail
    go_ret2
    exact relPost_no HN.out (below_then hW hb1)
  have q1 : decide ((4096 : Int) < (source.size : Int)) = false := by simp; omega
  by_cases h2 : face.size ≤ 3000
  rotate_left
  · have HN : Hid ((⟨name, ⟨a, b, c, p⟩, source, face, y, note⟩ : Rel).ok = false) := by show _ = _; unfold Rel.ok; simp only; rw [decide_eq_false h2, Bool.and_false]; rfl
    have q2 : decide ((3000 : Int) < (face.size : Int)) = true := by simp; omega
    clear h1 h2
    go_enter Tryz.func8, Tryz.ntmps8
    go_wp2_with fail
    refine (showV ⟨a, b, c, p⟩ _ _ HS.out _ (HE.out.below hW).env hs).mono ?_
    rintro e w1 ⟨rfl, hb1⟩
    have hx := box_of hb1
    have c0 := box_cells hx 0
    have c5 := box_cells hx 5
    have c6 := box_cells hx 6
    simp at c0 c5 c6
    go_wp2_with fail
    refine (lname_as name true HNm.out _).mono ?_
    rintro e w2 ⟨rfl, rfl⟩
    go_wp2_with fail
    go_ret2
    exact relPost_no HN.out (below_then hW hb1)
  have q2 : decide ((3000 : Int) < (face.size : Int)) = false := by simp; omega
  obtain ⟨n1, hn1⟩ : ∃ n1, noteB note.data.toList = n1 := ⟨_, rfl⟩
  have HNo := Lib.hid hn1
  clear hn1
  cases n1
  · have HN : Hid ((⟨name, ⟨a, b, c, p⟩, source, face, y, note⟩ : Rel).ok = false) := by show _ = _; unfold Rel.ok; simp only; rw [HNo.out, Bool.and_false]
    clear h1 h2
    go_enter Tryz.func8, Tryz.ntmps8
    go_wp2_with fail
    refine (showV ⟨a, b, c, p⟩ _ _ HS.out _ (HE.out.below hW).env hs).mono ?_
    rintro e w1 ⟨rfl, hb1⟩
    have hx := box_of hb1
    have c0 := box_cells hx 0
    have c5 := box_cells hx 5
    have c6 := box_cells hx 6
    have c8 := box_cells hx 8
    simp at c0 c5 c6 c8
    go_wp2_with fail
    refine (lname_as name true HNm.out _).mono ?_
    rintro e w2 ⟨rfl, rfl⟩
    go_wp2_with fail
    have hb2 := below_then hW hb1
    refine (note_as note false HNo.out _ (HE.out.below hb2).tab).mono ?_
    rintro e w3 ⟨rfl, hb3⟩
    go_wp2_with fail
    go_ret2
    exact relPost_no HN.out (below_then hb2 hb3)
  have HN : Hid ((⟨name, ⟨a, b, c, p⟩, source, face, y, note⟩ : Rel).ok = true) := by
    show _ = _
    unfold Rel.ok
    simp only
    rw [HOk.out, HNm.out, HNo.out, decide_eq_true h1, decide_eq_true h2]; rfl
  have HL := Lib.hid (rel_small HN.out)
  have HSt : Hid (V4.show ⟨a, b, c, p⟩ = t.data.toList) := by show _ = _; rw [← HT.out]; rfl
  clear h1 h2
  cases y
  all_goals
    go_enter Tryz.func8, Tryz.ntmps8
    go_wp2_with fail
    refine (showV ⟨a, b, c, p⟩ _ _ HS.out _ (HE.out.below hW).env hs).mono ?_
    rintro e w1 ⟨rfl, hb1⟩
    have hx := box_of hb1
    have c0 := box_cells hx 0
    have c5 := box_cells hx 5
    have c6 := box_cells hx 6
    have c8 := box_cells hx 8
    simp at c0 c5 c6 c8
    go_wp2_with fail
    refine (lname_as name true HNm.out _).mono ?_
    rintro e w2 ⟨rfl, rfl⟩
    go_wp2_with fail
    have hb2 := below_then hW hb1
    refine (note_as note true HNo.out _ (HE.out.below hb2).tab).mono ?_
    rintro e w3 ⟨rfl, hb3⟩
    have hx3 := box_then hx hb3
    clear c0 c5 c6 c8
    have c0 := box_cells hx3 0
    have c5 := box_cells hx3 5
    have c6 := box_cells hx3 6
    have c7 := box_cells hx3 7
    have c8 := box_cells hx3 8
    simp at c0 c5 c6 c7 c8
    have hb4 := below_then hb2 hb3
    go_wp2_with fail
  · refine (olist_any _ 0 6 [name.data.toList, t.data.toList, source.data.toList, face.data.toList, [], note.data.toList] _ (strs_new w3 _ 9 6 _ 6 _ rfl rfl rfl (by simp) (by unfold maxLen; simp)) (by simp) ?_ (by simp)).mono ?_
    · intro l hl
      have := HL.out l (by unfold Rel.parts; rw [HSt.out]; exact hl)
      omega
    · rintro e w5 ⟨rfl, hb5⟩
      go_wp2_with fail
      go_ret2
      exact relPost_yes HN.out (by unfold Rel.text Rel.parts; rw [HSt.out]; rfl) (below_then (hb4.alloc hb4.size _) hb5)
  · refine (olist_any _ 0 6 [name.data.toList, t.data.toList, source.data.toList, face.data.toList, [89], note.data.toList] _ (strs_new w3 _ 9 6 _ 6 _ rfl rfl rfl (by simp) (by unfold maxLen; simp)) (by simp) ?_ (by simp)).mono ?_
    · intro l hl
      have := HL.out l (by unfold Rel.parts; rw [HSt.out]; exact hl)
      omega
    · rintro e w5 ⟨rfl, hb5⟩
      go_wp2_with fail
      go_ret2
      exact relPost_yes HN.out (by unfold Rel.text Rel.parts; rw [HSt.out]; rfl) (below_then (hb4.alloc hb4.size _) hb5)
end Go.Proofs.YtlhpgkaffbgkgaaGreatDoor
