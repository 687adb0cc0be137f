/- Locks: the law's awake: a walk. -/
import Derived.Test.YtboajinaiceekaaGreatDoorLock11
import Derived.Test.YtboajinaiceekaaGreatDoorLockSame
import Derived.Test.YtboajinaiceekaaGreatDoorLockLight
namespace Go
open Go.RowKit
theorem piks_new (w : World) (ps : List Pik) (T : TypeId) (cap B n : Nat) (cs : Array Value) (hB : B = w.heap.size) (hcs : cs = (ps.flatMap Pik.cells).toArray) (hn' : n = ps.length) (hn : 0 < ps.length) (hm : ps.length ≤ maxLen) :
    Piks (w.alloc (.cells cs T)) (.slice (some ⟨B, 0, none⟩) n cap) ps := by
  subst hB hcs hn'
  refine ⟨piks_len ps, hm, .inr ⟨w.heap.size, 0, cap, rfl, hn, by simp, fun j hj => ?_⟩⟩
  simp only [World.cell?, Below_heap_new, Nat.zero_add, Option.isSome_none, Bool.false_eq_true, if_false]
  simp
def awP : Pik := ⟨⟨#[112]⟩, ⟨1, 0, 0, ⟨#[]⟩⟩⟩
def awQ : Pik := ⟨⟨#[113]⟩, ⟨2, 0, 0, ⟨#[]⟩⟩⟩
def awR : Pik := ⟨⟨#[112]⟩, ⟨3, 0, 0, ⟨#[]⟩⟩⟩
set_option maxRecDepth 100000 in
theorem aw1 : mayB [awP, awQ] = true := by decide
set_option maxRecDepth 100000 in
theorem aw2 : mayB [awQ, awP] = false := by decide
set_option maxRecDepth 100000 in
theorem aw3 : mayB [awP] = true := by decide
set_option maxRecDepth 100000 in
theorem aw4 : mayB [awR, awQ] = true := by decide
theorem sh1 : V4.show ⟨1, 0, 0, ⟨#[]⟩⟩ = [49, 46, 48, 46, 48] := by
  unfold V4.show showL showCore
  show dig10 1 ++ [46] ++ dig10 0 ++ [46] ++ dig10 0 = _
  rw [dig10_lt 1 (by decide), dig10_lt 0 (by decide)]
  rfl
theorem sh2 : V4.show ⟨2, 0, 0, ⟨#[]⟩⟩ = [50, 46, 48, 46, 48] := by
  unfold V4.show showL showCore
  show dig10 2 ++ [46] ++ dig10 0 ++ [46] ++ dig10 0 = _
  rw [dig10_lt 2 (by decide), dig10_lt 0 (by decide)]
  rfl
theorem sh3 : V4.show ⟨3, 0, 0, ⟨#[]⟩⟩ = [51, 46, 48, 46, 48] := by
  unfold V4.show showL showCore
  show dig10 3 ++ [46] ++ dig10 0 ++ [46] ++ dig10 0 = _
  rw [dig10_lt 3 (by decide), dig10_lt 0 (by decide)]
  rfl
theorem aw5 : bodyL [awP, awQ] = [108, 111, 99, 107, 32, 49, 10, 112, 32, 49, 46, 48, 46, 48, 10, 113, 32, 50, 46, 48, 46, 48, 10] := by
  unfold bodyL lineN Pik.line
  simp only [List.map_cons, List.map_nil]
  unfold awP awQ
  simp only [sh1, sh2]
  rfl
theorem aw6 : chgL awP awR = [94, 32, 112, 32, 49, 46, 48, 46, 48, 32, 51, 46, 48, 46, 48, 10] := by
  unfold chgL Pik.line
  rw [if_pos (by decide)]
  unfold awP awR
  simp only [sh1, sh3]
  rfl
theorem aw7 : [awQ].flatMap plusL = [43, 32, 113, 32, 50, 46, 48, 46, 48, 10] := by
  simp only [List.flatMap_cons, List.flatMap_nil]
  unfold plusL Pik.line awQ
  simp only [sh2]
  rfl
theorem aw8 : updShow [awP] [awR, awQ] = ([94, 32, 112, 32, 49, 46, 48, 46, 48, 32, 51, 46, 48, 46, 48, 10, 43, 32, 113, 32, 50, 46, 48, 46, 48, 10], 0) := by
  unfold updShow
  rw [aw3, aw4]
  simp only [Bool.and_self, if_true]
  rw [upd_merge aw3 aw4, mergeL, if_neg (by decide), if_neg (by decide), mergeL, aw6, aw7]
  rfl
theorem aw9 : lockShow [awP, awQ] = (lockL [awP, awQ], 0) := by unfold lockShow; rw [aw1]; rfl
theorem aw10 : lockShow [awQ, awP] = ([], 370) := by unfold lockShow; rw [aw2]; rfl
end Go
namespace Go.Proofs.YtboajinaiceekaaGreatDoor
open Go.RowKit
theorem lshow_as (v : Value) (ps : List Pik) (A : ByteArray) (er : Int) (h : lockShow ps = (A.data.toList, er)) (w : World) (hv : Piks w v ps) (hE : Env w) (hp : ∀ x ∈ ps, x.v.p.size ≤ 300) :
    Calls Tryz.prog 11 #[v] w fun e w' => e = .returned (.tuple #[.string A, .int .i64 er]) ∧ Below w.heap.size w w' := by
  have := lshow_any v ps w hv hE hp
  rw [h] at this
  exact this
theorem update_as (v u : Value) (ps qs : List Pik) (A : ByteArray) (er : Int) (h : updShow ps qs = (A.data.toList, er)) (w : World) (hv : Piks w v ps) (hu : Piks w u qs) (hE : Env w) (hp : ∀ x ∈ ps, x.v.p.size ≤ 300) (hq : ∀ x ∈ qs, x.v.p.size ≤ 300) :
    Calls Tryz.prog 16 #[v, u] w fun e w' => e = .returned (.tuple #[.string A, .int .i64 er]) ∧ Below w.heap.size w w' := by
  have := update_any v u ps qs w hv hu hE hp hq
  rw [h] at this
  exact this
theorem same_self (v u : Value) (ps : List Pik) (w : World) (hv : Piks w v ps) (hu : Piks w u ps) :
    Calls Tryz.prog 15 #[v, u] w fun e w' => e = .returned (.bool true) ∧ Below w.heap.size w w' := by
  have := same_any v u ps ps w hv hv.len hu hu.len (Nat.le_trans hv.cases.1 (by decide))
  rw [show samePk ps ps = true from decide_eq_true rfl] at this
  exact this
set_option maxRecDepth 100000 in
set_option maxHeartbeats 4000000 in
theorem awake_any (w : World) (hE : Env w) : Calls Tryz.prog 10 #[] w fun e w' => e = .returned (.bool true) ∧ Below w.heap.size w w' := by
  have HE := Lib.hid hE
  obtain ⟨A, hA⟩ : ∃ A, S (lockL [awP, awQ]) = A := ⟨_, rfl⟩
  have hAl : A.data.toList = lockL [awP, awQ] := by rw [← hA]; rfl
  have hAs : A.size = 36 := by
    rw [Lib.size_eq, hAl]
    unfold lockL
    rw [List.length_append, sumL_length, aw5]; rfl
  have hAx : A.extract 0 23 = ⟨#[108, 111, 99, 107, 32, 49, 10, 112, 32, 49, 46, 48, 46, 48, 10, 113, 32, 50, 46, 48, 46, 48, 10]⟩ := by
    apply ByteArray.ext; apply Array.toList_inj.1
    rw [ext_mid, hAl]
    unfold lockL
    rw [List.take_append_of_le_length (by rw [aw5]; decide), aw5]; rfl
  have HS1 := Lib.hid (fun v w hv hE hp => lshow_as v [awP, awQ] A 0 (by rw [aw9, hAl]) w hv hE hp)
  have HS2 := Lib.hid (fun v w hv hE hp => lshow_as v [awQ, awP] ⟨#[]⟩ 370 aw10 w hv hE hp)
  have HU := Lib.hid (fun v u w hv hu hE hp hq => update_as v u [awP] [awR, awQ] ⟨#[94, 32, 112, 32, 49, 46, 48, 46, 48, 32, 51, 46, 48, 46, 48, 10, 43, 32, 113, 32, 50, 46, 48, 46, 48, 10]⟩ 0 aw8 w hv hu hE hp hq)
  have HPa := Lib.hid (fun w hE => lparse_any A w hE (by omega))
  have HAl := Lib.hid hAl
  have hsl : ∀ W, (Instr.slice 9 (.string A) none (some (.int .i64 23)) none).run Tryz.prog W = .ok (.string ⟨#[108, 111, 99, 107, 32, 49, 10, 112, 32, 49, 46, 48, 46, 48, 10, 113, 32, 50, 46, 48, 46, 48, 10]⟩) W := fun W => by
    have := run_slice_string_to_if (P := Tryz.prog) W 9 A .i64 23 Tryz.underlying9
    rw [if_pos ⟨by decide, by omega⟩, show (23 : Int).toNat = 23 from rfl, hAx] at this
    exact this
  have q36 : ((A.size : Int) == 36) = true := by rw [hAs]; rfl
  have q36' : (A.size == 36) = true := by rw [hAs]; rfl
  have HAs := Lib.hid hAs
  clear hE hA hAl hAs hAx
  go_enter Tryz.func10, Tryz.ntmps10
  have hz1 : (w.alloc (.cells #[.string ⟨#[112]⟩, .int .i64 1, .int .i64 0, .int .i64 0, .string ⟨#[]⟩] 47)).heap.size = w.heap.size + 1 := by simp
  obtain ⟨W2, hW2⟩ : ∃ W2, (w.alloc (.cells #[.string ⟨#[112]⟩, .int .i64 1, .int .i64 0, .int .i64 0, .string ⟨#[]⟩] 47)).alloc (.cells #[.string ⟨#[113]⟩, .int .i64 2, .int .i64 0, .int .i64 0, .string ⟨#[]⟩] 47) = W2 := ⟨_, rfl⟩
  have hxP : Below (w.heap.size + 1) (w.alloc (.cells #[.string ⟨#[112]⟩, .int .i64 1, .int .i64 0, .int .i64 0, .string ⟨#[]⟩] 47)) W2 := by rw [← hW2]; exact (Below.refl _ _).alloc (by simp) _
  have hwW : Below w.heap.size w W2 := by rw [← hW2]; exact ((Below.refl _ _).alloc (Nat.le_refl _) _).alloc (by simp) _
  have hQq : ∀ w', Below W2.heap.size W2 w' → Below ((w.alloc (.cells #[.string ⟨#[112]⟩, .int .i64 1, .int .i64 0, .int .i64 0, .string ⟨#[]⟩] 47)).heap.size + 1) ((w.alloc (.cells #[.string ⟨#[112]⟩, .int .i64 1, .int .i64 0, .int .i64 0, .string ⟨#[]⟩] 47)).alloc (.cells #[.string ⟨#[113]⟩, .int .i64 2, .int .i64 0, .int .i64 0, .string ⟨#[]⟩] 47)) w' := fun w' h => by
    rw [← hW2] at h; exact box_of h
  have HQq := Lib.hid hQq
  have HxP := Lib.hid hxP
  have hszW : W2.heap.size = w.heap.size + 2 := by rw [← hW2]; simp
  have HSz := Lib.hid hszW
  have hps : ∀ x ∈ [awP, awQ], x.v.p.size ≤ 300 := by decide
  have hps2 : ∀ x ∈ [awQ, awP], x.v.p.size ≤ 300 := by decide
  have hps3 : ∀ x ∈ [awP], x.v.p.size ≤ 300 := by decide
  have hps4 : ∀ x ∈ [awR, awQ], x.v.p.size ≤ 300 := by decide
  have HN1 := Lib.hid (fun W B cs (hB : B = W.heap.size) (hcs : cs = ([awP, awQ].flatMap Pik.cells).toArray) => piks_new W [awP, awQ] 47 2 B 2 cs hB hcs rfl (by decide) (by decide))
  have HN2 := Lib.hid (fun W B cs (hB : B = W.heap.size) (hcs : cs = ([awQ, awP].flatMap Pik.cells).toArray) => piks_new W [awQ, awP] 47 2 B 2 cs hB hcs rfl (by decide) (by decide))
  have HN3 := Lib.hid (fun W B cs (hB : B = W.heap.size) (hcs : cs = ([awP].flatMap Pik.cells).toArray) => piks_new W [awP] 47 1 B 1 cs hB hcs rfl (by decide) (by decide))
  have HN4 := Lib.hid (fun W B cs (hB : B = W.heap.size) (hcs : cs = ([awR, awQ].flatMap Pik.cells).toArray) => piks_new W [awR, awQ] 47 2 B 2 cs hB hcs rfl (by decide) (by decide))
  have HW2 := Lib.hid hW2
  have HZ1 := Lib.hid hz1
  clear hxP hQq hszW hW2 hz1
  go_wp2_with fail
  rw [HW2.out]
  have hal := (Below.refl W2.heap.size W2).alloc (Nat.le_refl _) (.cells (([awP, awQ].flatMap Pik.cells).toArray) 47)
  have HEa := Lib.hid (HE.out.below (below_then hwW hal))
  refine (HS1.out _ _ (HN1.out W2 _ _ (by rw [HSz.out]) rfl) HEa.out hps).mono ?_
  rintro e w1 ⟨rfl, hb1⟩
  have hb := below_then hal hb1
  clear hal hb1
  have HE1 := Lib.hid (HE.out.below (below_then hwW hb))
  go_wp2_with fail
  refine (HPa.out _ HE1.out).mono ?_
  rintro e w2 ⟨v, ps, er, rfl, hv, hli, _, hb2⟩
  rw [HAl.out] at hli
  obtain ⟨rfl, rfl⟩ := hli.uniq (lockIs_yes aw1 rfl)
  obtain ⟨va, vcap, rfl⟩ := hv.len
  have hb := below_then hb hb2
  have HV2 := Lib.hid hv
  clear hb2 hli hv
  obtain ⟨⟨p0, p1, p2, p3, p4⟩, _⟩ := box_five (box_then HxP.out hb)
  obtain ⟨⟨q0, q1, q2, q3, q4⟩, _⟩ := box_five (HQq.out _ hb)
  rw [HZ1.out] at q0 q1 q2 q3 q4
  go_wp2_with fail
  have hal := (Below.refl w2.heap.size w2).alloc (Nat.le_refl _) (.cells (([awQ, awP].flatMap Pik.cells).toArray) 47)
  have hb3 := below_then hb hal
  have HEa := Lib.hid (HE.out.below (below_then hwW hb3))
  refine (HS2.out _ _ (HN2.out w2 _ _ rfl rfl) HEa.out hps2).mono ?_
  rintro e w3 ⟨rfl, hb4⟩
  have hb := below_then hb3 hb4
  have HV3 := Lib.hid (HV2.out.below (below_then hal hb4) (Nat.le_refl _))
  clear hal hb3 hb4 p0 p1 p2 p3 p4 q0 q1 q2 q3 q4
  obtain ⟨⟨p0, p1, p2, p3, p4⟩, _⟩ := box_five (box_then HxP.out hb)
  obtain ⟨⟨q0, q1, q2, q3, q4⟩, _⟩ := box_five (HQq.out _ hb)
  rw [HZ1.out] at q0 q1 q2 q3 q4
  have hz := cell_lt q0
  have hz0 := cell_lt p0
  go_wp2_with fail
  have hal1 := (Below.refl w3.heap.size w3).alloc (Nat.le_refl _) (.cells (([awP].flatMap Pik.cells).toArray) 47)
  have hal := hal1.alloc (by simp) (.cells (([awR, awQ].flatMap Pik.cells).toArray) 47)
  have hal2 := (Below.refl (w3.alloc (.cells (([awP].flatMap Pik.cells).toArray) 47)).heap.size (w3.alloc (.cells (([awP].flatMap Pik.cells).toArray) 47))).alloc (Nat.le_refl _) (.cells (([awR, awQ].flatMap Pik.cells).toArray) 47)
  have hb3 := below_then hb hal
  have HEa := Lib.hid (HE.out.below (below_then hwW hb3))
  refine (HU.out _ _ _ ((HN3.out w3 _ _ rfl rfl).below hal2 (Nat.le_refl _)) (HN4.out _ _ _ (by simp) rfl) HEa.out hps3 hps4).mono ?_
  rintro e w4 ⟨rfl, hb4⟩
  have hb := below_then hb3 hb4
  have HV4 := Lib.hid (HV3.out.below (below_then hal hb4) (Nat.le_refl _))
  clear hal hal1 hal2 hb3 hb4 p0 p1 p2 p3 p4 q0 q1 q2 q3 q4 hz hz0
  obtain ⟨⟨p0, p1, p2, p3, p4⟩, _⟩ := box_five (box_then HxP.out hb)
  obtain ⟨⟨q0, q1, q2, q3, q4⟩, _⟩ := box_five (HQq.out _ hb)
  rw [HZ1.out] at q0 q1 q2 q3 q4
  have hal := (Below.refl w4.heap.size w4).alloc (Nat.le_refl _) (.cells (([awP, awQ].flatMap Pik.cells).toArray) 47)
  have HSm := Lib.hid (same_self (.slice va 2 vcap) (.slice (some ⟨w4.heap.size, 0, none⟩) 2 2) [awP, awQ] _ (HV4.out.below hal (Nat.le_refl _)) (HN1.out w4 _ _ rfl rfl))
  go_wp2_with fail
  refine HSm.out.mono ?_
  rintro e w5 ⟨rfl, hb5⟩
  have hbF := below_then hwW (below_then (below_then hb hal) hb5)
  clear hal hb5
  go_wp2_with fail
  go_ret
  exact ⟨rfl, hbF⟩
end Go.Proofs.YtboajinaiceekaaGreatDoor
