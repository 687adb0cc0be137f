/- Locks: the program's version, line: walks. -/
import Derived.Test.YtboajinaiceekaaGreatDoorLock1
import Derived.Test.YtboajinaiceekaaGreatDoorSemProg4
namespace Go
open Go.RowKit
/-- a pick as a value -/
def Pik.val (p : Pik) : Value := .agg #[.string p.name, .int .i64 p.v.a, .int .i64 p.v.b, .int .i64 p.v.c, .string p.v.p]
theorem vshow_len {v : V4} (h : v.ok = true) : v.show.length ≤ 45 := by
  have b := verOk_bounds h
  exact showL_len (by omega) (by omega) (by omega) (by omega)
end Go
namespace Go.Proofs.YtboajinaiceekaaGreatDoor
open Go.RowKit
theorem showQ_any (v : V4) (h : v.ok = true) (T : ByteArray) (hT : S v.show = T) (w : World) (hE : Env w) :
    Calls Tryz.prog 71 #[.agg #[.int .i64 v.a, .int .i64 v.b, .int .i64 v.c, .string v.p]] w fun e w' => e = .returned (.tuple #[.string T, .int .i64 0]) ∧ Below w.heap.size w w' := by
  have hb := verOk_bounds h
  have e1 : ((v.a.toNat : Nat) : Int) = v.a := by omega
  have e2 : ((v.b.toNat : Nat) : Int) = v.b := by omega
  have e3 : ((v.c.toNat : Nat) : Int) = v.c := by omega
  have hv : verErr v.a v.b v.c v.p.data.toList = 0 := by unfold verErr; rw [if_pos (show verOk v.a v.b v.c v.p.data.toList = true from h)]
  have := show_yes v.a.toNat v.b.toNat v.c.toNat v.p w hE (by rw [Lib.size_eq]; omega) (by omega) (by omega) (by omega) (by rw [e1, e2, e3]; exact hv)
  rw [e1, e2, e3] at this
  rw [← hT]
  exact this
set_option maxRecDepth 100000 in
set_option maxHeartbeats 1000000 in
theorem version_as (nm : ByteArray) (v : V4) (h : v.ok = true) (T : ByteArray) (hT : S v.show = T) (w : World) (hE : Env w) :
    Calls Tryz.prog 42 #[.agg #[.string nm, .int .i64 v.a, .int .i64 v.b, .int .i64 v.c, .string v.p]] w fun e w' => e = .returned (.string T) ∧ Below w.heap.size w w' := by
  have HS := Lib.hid (fun W hW => showQ_any v h T hT W hW)
  have hW := (Below.refl w.heap.size w).alloc (Nat.le_refl _) (.cells #[.string nm, .int .i64 v.a, .int .i64 v.b, .int .i64 v.c, .string v.p] 47)
  have HE := Lib.hid (hE.below hW)
  clear h hT hE
  go_enter Tryz.func42, Tryz.ntmps42
  go_wp2_with fail
  refine (HS.out _ HE.out).mono ?_
  rintro e w1 ⟨rfl, hb1⟩
  have hb2 := below_then hW hb1
  go_wp2_with fail
  go_ret
  exact ⟨rfl, hb2⟩
set_option maxRecDepth 100000 in
set_option maxHeartbeats 1000000 in
theorem line_as (nm : ByteArray) (v : V4) (h : v.ok = true) (hn : nm.size ≤ 24) (L : ByteArray) (hL : S (Pik.line ⟨nm, v⟩) = L) (w : World) (hE : Env w) :
    Calls Tryz.prog 21 #[.agg #[.string nm, .int .i64 v.a, .int .i64 v.b, .int .i64 v.c, .string v.p]] w fun e w' => e = .returned (.string L) ∧ Below w.heap.size w w' := by
  obtain ⟨T, hT⟩ : ∃ T, S v.show = T := ⟨_, rfl⟩
  have hTs : T.size ≤ 45 := by rw [← hT, S_size]; exact vshow_len h
  have HV := Lib.hid (fun W hW => version_as nm v h T hT W hW)
  have HX : Hid (nm ++ ⟨#[32]⟩ ++ T = L) := by
    show _ = _
    rw [← hL, ← hT]; apply ByteArray.ext; apply Array.toList_inj.1; simp [S, Pik.line, Pik.nm]
  have r1 : ∀ W, (Op.stringOp .add nm ⟨#[32]⟩).run Tryz.prog W = .ok (.string (nm ++ ⟨#[32]⟩)) W := fun W => run_string_add_sum W _ _ (by rw [show (⟨#[32]⟩ : ByteArray).size = 1 from rfl]; omega)
  have r2 : ∀ W, (Op.stringOp .add (nm ++ ⟨#[32]⟩) T).run Tryz.prog W = .ok (.string (nm ++ ⟨#[32]⟩ ++ T)) W := fun W => run_string_add_sum W _ _ (by rw [ByteArray.size_append, show (⟨#[32]⟩ : ByteArray).size = 1 from rfl]; omega)
  have hW := (Below.refl w.heap.size w).alloc (Nat.le_refl _) (.cells #[.string nm, .int .i64 v.a, .int .i64 v.b, .int .i64 v.c, .string v.p] 47)
  obtain ⟨⟨v0, v1, v2, v3, v4⟩, _⟩ := box_five (Below.refl (w.heap.size + 1) (w.alloc (.cells #[.string nm, .int .i64 v.a, .int .i64 v.b, .int .i64 v.c, .string v.p] 47)))
  have HE := Lib.hid (hE.below hW)
  clear h hL hT hE
  go_enter Tryz.func21, Tryz.ntmps21
  go_wp2_with fail
  obtain ⟨B4, hB4⟩ : ∃ B4, w.heap.size = B4 := ⟨_, rfl⟩
  rw [hB4] at v0 v1 v2 v3 v4
  rw [hB4]
  have HB := Lib.hid hB4
  generalize w.alloc (.cells #[.string nm, .int .i64 v.a, .int .i64 v.b, .int .i64 v.c, .string v.p] 47) = w4 at v0 v1 v2 v3 v4 hW HE ⊢
  have hd0 : Below w4.heap.size w4 w4.drew := (Below.refl _ _).drew
  clear hB4
  go_region_held3 (fun w' => w'.cell? ⟨B4, 0, none⟩ = some (.string nm) ∧ w'.cell? ⟨B4, 1, none⟩ = some (.int .i64 v.a) ∧ w'.cell? ⟨B4, 2, none⟩ = some (.int .i64 v.b) ∧ w'.cell? ⟨B4, 3, none⟩ = some (.int .i64 v.c) ∧ w'.cell? ⟨B4, 4, none⟩ = some (.string v.p) ∧ Below w4.heap.size w4 w') (go_keep) ((go_at_call 42; refine (keepK5 w4 _ B4 _ _ _ _ _ (by assumption) (HV.out _ (HE.out.below (And.right (And.right (And.right (And.right (And.right (by assumption))))))))).mono ?_; rintro e w5 ⟨rfl, hk5⟩))
  all_goals
    have hbF := below_then hW hk5.2.2.2.2.2
    clear v0 v1 v2 v3 v4 hk5
    go_wp2_with fail
    go_ret
    exact ⟨by rw [← HX.out]; rfl, hbF⟩
end Go.Proofs.YtboajinaiceekaaGreatDoor
