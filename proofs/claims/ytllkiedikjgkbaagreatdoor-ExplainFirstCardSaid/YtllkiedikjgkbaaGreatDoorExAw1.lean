/- Explain: what the laws' probe looks at: the walk. -/
import Derived.Test.YtllkiedikjgkbaaGreatDoorExText
import Derived.Test.YtllkiedikjgkbaaGreatDoorExAw0
import Derived.Test.YtllkiedikjgkbaaGreatDoorTabLast
namespace Go
open Go.RowKit
theorem alloc5E (w : World) (o0 o1 o2 o3 o4 : Obj) :
    let W := ((((w.alloc o0).alloc o1).alloc o2).alloc o3).alloc o4
    (W.heap[w.heap.size]? = some o0 ∧ W.heap[w.heap.size + 1]? = some o1 ∧ W.heap[w.heap.size + 1 + 1]? = some o2 ∧ W.heap[w.heap.size + 1 + 1 + 1]? = some o3 ∧ W.heap[w.heap.size + 1 + 1 + 1 + 1]? = some o4) ∧ Below w.heap.size w W := by
  intro W
  have h0 := Below_heap_new w o0
  have h1 := Below_heap_new (w.alloc o0) o1
  have h2 := Below_heap_new ((w.alloc o0).alloc o1) o2
  have h3 := Below_heap_new (((w.alloc o0).alloc o1).alloc o2) o3
  have h4 := Below_heap_new ((((w.alloc o0).alloc o1).alloc o2).alloc o3) o4
  simp only [World.size_alloc] at h1 h2 h3 h4
  refine ⟨⟨new_alloc (new_alloc (new_alloc (new_alloc h0 _) _) _) _, new_alloc (new_alloc (new_alloc h1 _) _) _, new_alloc (new_alloc h2 _) _, new_alloc h3 _, h4⟩, ?_⟩
  exact (((((Below.refl _ _).alloc (by simp) _).alloc (by simp) _).alloc (by simp <;> omega) _).alloc (by simp <;> omega) _).alloc (by simp <;> omega) _
theorem row_blkE {w : World} {b : Nat} {T : TypeId} {cs : Array Value} {xs : List Value} {size n cap : Nat} (h : w.heap[b]? = some (.cells cs T)) (hcs : cs = xs.toArray) (hl : xs.length = n * size) (h0 : 0 < n) (hm : n ≤ maxLen) : Row w size (.slice (some ⟨b, 0, none⟩) n cap) n xs := by
  refine ⟨hl, hm, .inr ⟨b, 0, cap, rfl, h0, (Array.getElem?_eq_some_iff.1 h).1, fun j hj => ?_⟩⟩
  rw [blk_cells h, hcs, Nat.zero_add]; simp
/-- what the probe has laid -/
structure XAt (TB TN TO TP : TypeId) (B : Nat) (W : World) : Prop where
  b0 : W.heap[B]? = some (.cells #[.int .i64 1, .int .i64 0, .int .i64 0, .string ⟨#[]⟩, .bool false, .slice none 0 0, .int .i64 2, .int .i64 0, .int .i64 0, .string ⟨#[]⟩, .bool true, .slice none 0 0] TO)
  b1 : W.heap[B + 1]? = some (.cells #[.string xP, .slice (some ⟨B, 0, none⟩) 2 2] TP)
  b2 : W.heap[B + 1 + 1]? = some (.cells #[.int .i64 4, .int .i64 2, .int .i64 0, .int .i64 0, .string ⟨#[]⟩] TB)
  b3 : W.heap[B + 1 + 1 + 1]? = some (.cells #[.string xP, .slice (some ⟨B + 1 + 1, 0, none⟩) 1 1] TN)
section
variable {TB TN TO TP : TypeId} {B : Nat} {W W' : World}
theorem XAt.on (h : XAt TB TN TO TP B W) (hb : Below W.heap.size W W') : XAt TB TN TO TP B W' := by
  have lt : ∀ {i : Nat} {o : Obj}, W.heap[i]? = some o → W'.heap[i]? = some o := fun {i o} hi => (hb.block i (Array.getElem?_eq_some_iff.1 hi).1).trans hi
  exact ⟨lt h.b0, lt h.b1, lt h.b2, lt h.b3⟩
theorem XAt.needs (h : XAt TB TN TO TP B W) : Wants W (.slice (some ⟨B + 1 + 1 + 1, 0, none⟩) 1 1) (xNs (B + 1 + 1)) :=
  ⟨row_blkE h.b3 rfl rfl (by decide) (by unfold maxLen; decide), fun x hx => by
    simp [xNs] at hx; subst hx
    exact ⟨row_blkE h.b2 rfl rfl (by decide) (by unfold maxLen; decide), _, _, rfl⟩⟩
theorem XAt.packs (h : XAt TB TN TO TP B W) {bp : Nat} (hp : W.heap[bp]? = some (.cells #[.string xP, .slice (some ⟨B, 0, none⟩) 2 2] TP)) : Packs W (.slice (some ⟨bp, 0, none⟩) 1 1) (xPs B) := by
  refine ⟨row_blkE hp rfl rfl (by decide) (by unfold maxLen; decide), fun p hx => ?_⟩
  simp [xPs] at hx; subst hx
  refine ⟨⟨row_blkE h.b0 rfl rfl (by show 0 < 2; decide) (by show 2 ≤ maxLen; unfold maxLen; decide), fun o ho => ?_⟩, _, _, rfl⟩
  simp only [List.mem_cons, List.not_mem_nil, or_false] at ho
  rcases ho with rfl | rfl
  · exact ⟨Wants.nil _, _, _, rfl⟩
  · exact ⟨Wants.nil _, _, _, rfl⟩
end
theorem x_small (b c : Nat) : SmallP (xPs c) [] (xNs b) := by
  refine ⟨by show 1 ≤ 30; decide, Nat.zero_le _, fun p hp => ?_, (fun x hx => by cases hx), by show 1 ≤ 30; decide, fun x hx => ?_⟩
  · simp [xPs] at hp; subst hp
    refine ⟨by show 2 ≤ 100; decide, fun o ho => ?_⟩
    simp only [List.mem_cons, List.not_mem_nil, or_false] at ho
    rcases ho with rfl | rfl
    · exact ⟨by show 0 ≤ 60; decide, Nat.zero_le _, fun x hx => by cases hx⟩
    · exact ⟨by show 0 ≤ 60; decide, Nat.zero_le _, fun x hx => by cases hx⟩
  · simp [xNs] at hx; subst hx
    refine ⟨by show 1 ≤ 30; decide, by show 1 ≤ 100; decide, fun b hb => ?_⟩
    simp [xF, xB] at hb; subst hb
    show 0 ≤ 60; decide
end Go
namespace Go.Proofs.YtllkiedikjgkbaaGreatDoor
open Go.RowKit Go.Maps
set_option maxRecDepth 100000 in
set_option maxHeartbeats 8000000 in
theorem exAwake_any (w : World) (hE : EnvI w) : Calls Tryz.prog 34 #[] w fun e w' => e = .returned (.bool true) ∧ Below w.heap.size w w' := by
  have HE := Lib.hid hE
  have h5 := alloc5E w (.cells #[.int .i64 1, .int .i64 0, .int .i64 0, .string ⟨#[]⟩, .bool false, .slice none 0 0, .int .i64 2, .int .i64 0, .int .i64 0, .string ⟨#[]⟩, .bool true, .slice none 0 0] 39) (.cells #[.string ⟨#[112]⟩, .slice (some ⟨w.heap.size, 0, none⟩) 2 2] 29) (.cells #[.int .i64 4, .int .i64 2, .int .i64 0, .int .i64 0, .string ⟨#[]⟩] 100) (.cells #[.string ⟨#[112]⟩, .slice (some ⟨w.heap.size + 1 + 1, 0, none⟩) 1 1] 35) (.cells #[.string ⟨#[112]⟩, .slice (some ⟨w.heap.size, 0, none⟩) 2 2] 29)
  obtain ⟨⟨b0, b1, b2, b3, b4⟩, hbw⟩ := h5
  have hx : XAt 100 35 39 29 w.heap.size (((((w.alloc (.cells #[.int .i64 1, .int .i64 0, .int .i64 0, .string ⟨#[]⟩, .bool false, .slice none 0 0, .int .i64 2, .int .i64 0, .int .i64 0, .string ⟨#[]⟩, .bool true, .slice none 0 0] 39)).alloc (.cells #[.string ⟨#[112]⟩, .slice (some ⟨w.heap.size, 0, none⟩) 2 2] 29)).alloc (.cells #[.int .i64 4, .int .i64 2, .int .i64 0, .int .i64 0, .string ⟨#[]⟩] 100)).alloc (.cells #[.string ⟨#[112]⟩, .slice (some ⟨w.heap.size + 1 + 1, 0, none⟩) 1 1] 35)).alloc (.cells #[.string ⟨#[112]⟩, .slice (some ⟨w.heap.size, 0, none⟩) 2 2] 29)) := ⟨b0, b1, b2, b3⟩
  have HX := Lib.hid hx
  have HB := Lib.hid hbw
  have HBl := Lib.hid (blame_as (x_small (w.heap.size + 1 + 1) w.heap.size) (hx.packs b4) (piks_nil _) hx.needs (fun a n c h => by injection h with _ h1 h2; omega) (hE.env.below hbw) 9 (by decide) (by decide))
  clear hE b0 b1 b2 b3 b4 hx hbw
  go_enter Tryz.func34, Tryz.ntmps34
  go_wp2_with fail
  generalize ((((w.alloc (.cells #[.int .i64 1, .int .i64 0, .int .i64 0, .string ⟨#[]⟩, .bool false, .slice none 0 0, .int .i64 2, .int .i64 0, .int .i64 0, .string ⟨#[]⟩, .bool true, .slice none 0 0] 39)).alloc (.cells #[.string ⟨#[112]⟩, .slice (some ⟨w.heap.size, 0, none⟩) 2 2] 29)).alloc (.cells #[.int .i64 4, .int .i64 2, .int .i64 0, .int .i64 0, .string ⟨#[]⟩] 100)).alloc (.cells #[.string ⟨#[112]⟩, .slice (some ⟨w.heap.size + 1 + 1, 0, none⟩) 1 1] 35)).alloc (.cells #[.string ⟨#[112]⟩, .slice (some ⟨w.heap.size, 0, none⟩) 2 2] 29) = w5 at *
  refine HBl.out.mono ?_
  rintro e w6 ⟨k, er, rfl, hbl, hb6⟩
  obtain ⟨rfl, rfl⟩ := hbl.uniq (x_blame _ _)
  have HX6 := Lib.hid (HX.out.on hb6)
  have HB6 := Lib.hid (below_then HB.out hb6)
  have d0 := blk_cells HX6.out.b1 0
  have d1 := blk_cells HX6.out.b1 1
  simp only [List.getElem?_toArray, List.getElem?_cons_zero, List.getElem?_cons_succ] at d0 d1
  have hal := (Below.refl w6.heap.size w6).alloc (Nat.le_refl _) (.cells #[.string ⟨#[112]⟩, .slice (some ⟨w.heap.size, 0, none⟩) 2 2] 29)
  have HX7 := Lib.hid (HX6.out.on hal)
  have HB7 := Lib.hid (below_then HB6.out hal)
  have hnew := Below_heap_new w6 (.cells #[.string ⟨#[112]⟩, .slice (some ⟨w.heap.size, 0, none⟩) 2 2] 29)
  have HTx := Lib.hid (exText_any _ _ _ _ 1 _ (HX7.out.packs hnew) HX7.out.needs (fun a n c h => by injection h with _ h1 h2; omega) (HE.out.below HB7.out) (x_small (w.heap.size + 1 + 1) w.heap.size).nd (x_small (w.heap.size + 1 + 1) w.heap.size).os)
  clear hbl hb6 hal hnew HBl
  go_wp2_with fail
  refine HTx.out.mono ?_
  rintro e w8 ⟨T, er, rfl, htx, hb8⟩
  obtain ⟨hT, rfl⟩ := htx.uniq (x_text _ _)
  have hT : T = ⟨#[112, 32, 62, 61, 50, 46, 48, 46, 48, 10, 111, 102, 32, 112, 58, 32, 50, 46, 48, 46, 48, 45, 32, 49, 46, 48, 46, 48, 10]⟩ := hT
  subst hT
  have HB8 := Lib.hid (below_then HB7.out hb8)
  have hal := (Below.refl w8.heap.size w8).alloc (Nat.le_refl _) (.cells #[.string ⟨#[112]⟩, .int .i64 1, .int .i64 0, .int .i64 0, .string ⟨#[]⟩] 45)
  have HB9 := Lib.hid (below_then HB8.out hal)
  have hnew := Below_heap_new w8 (.cells #[.string ⟨#[112]⟩, .int .i64 1, .int .i64 0, .int .i64 0, .string ⟨#[]⟩] 45)
  have hpk : Piks (w8.alloc (.cells #[.string ⟨#[112]⟩, .int .i64 1, .int .i64 0, .int .i64 0, .string ⟨#[]⟩] 45)) (.slice (some ⟨w8.heap.size, 0, none⟩) 1 1) xL := row_blkE hnew rfl rfl (by decide) (by unfold maxLen; decide)
  have hsh := exShow_any _ xL _ hpk (HE.out.below HB9.out) (fun x hx => by simp [xL] at hx; subst hx; show 0 ≤ 300; decide) (by decide)
  rw [x_show.1, x_show.2] at hsh
  have HSh := Lib.hid hsh
  clear htx hb8 hal hnew hpk hsh d0 d1 HTx
  go_wp2_with fail
  refine HSh.out.mono ?_
  rintro e w10 ⟨rfl, hb10⟩
  have HB10 := Lib.hid (below_then HB9.out hb10)
  clear hb10
  go_wp2_with fail
  go_ret
  exact ⟨rfl, HB10.out⟩
end Go.Proofs.YtllkiedikjgkbaaGreatDoor
