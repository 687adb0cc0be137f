/- The program's ranges: sign, Check: walks. -/
import Derived.Test.YtjjpngdbbjeaiaaGreatDoorSemProg2
import Derived.Test.YtjjpngdbbjeaiaaGreatDoorRanMath
import Derived.Test.YtjjpngdbbjeaiaaGreatDoorCells
namespace Go.Proofs.YtjjpngdbbjeaiaaGreatDoor
open Go.RowKit
theorem checkQ_as (v : V4) (r : Int) (h : verErr v.a v.b v.c v.p.data.toList = r) (w : World) (hE : Env w) (hs : v.p.size ≤ 9223372036854775807) :
    Calls Tryz.prog 60 #[.agg #[.int .i64 v.a, .int .i64 v.b, .int .i64 v.c, .string v.p]] w fun e w' => e = .returned (.int .i64 r) ∧ Below w.heap.size w w' := by
  subst h; exact check_any _ _ _ _ w hE hs
set_option maxRecDepth 100000 in
set_option maxHeartbeats 1000000 in
theorem sign_any (op : Int) (w : World) :
    Calls Tryz.prog 126 #[.int .i64 op] w fun e w' => e = .returned (.string (S (signL op))) ∧ w' = w := by
  by_cases h1 : op = 1
  · subst h1
    go_enter Tryz.func126, Tryz.ntmps126
    go_wp2_with fail
    go_ret
    exact ⟨rfl, rfl⟩
  by_cases h2 : op = 2
  · subst h2
    go_enter Tryz.func126, Tryz.ntmps126
    go_wp2_with fail
    go_ret
    exact ⟨rfl, rfl⟩
  by_cases h3 : op = 3
  · subst h3
    go_enter Tryz.func126, Tryz.ntmps126
    go_wp2_with fail
    go_ret
    exact ⟨rfl, rfl⟩
  by_cases h4 : op = 4
  · subst h4
    go_enter Tryz.func126, Tryz.ntmps126
    go_wp2_with fail
    go_ret
    exact ⟨rfl, rfl⟩
  by_cases h5 : op = 5
  · subst h5
    go_enter Tryz.func126, Tryz.ntmps126
    go_wp2_with fail
    go_ret
    exact ⟨rfl, rfl⟩
  have q1 : (op == 1) = false := by simpa using h1
  have q2 : (op == 2) = false := by simpa using h2
  have q3 : (op == 3) = false := by simpa using h3
  have q4 : (op == 4) = false := by simpa using h4
  have q5 : (op == 5) = false := by simpa using h5
  have H : Hid (signL op = []) := by show _ = _; unfold signL; rw [if_neg h1, if_neg h2, if_neg h3, if_neg h4, if_neg h5]
  clear h1 h2 h3 h4 h5
  go_enter Tryz.func126, Tryz.ntmps126
  go_wp2_with fail
  go_ret
  exact ⟨by rw [H.out]; rfl, rfl⟩
theorem sign_as (op : Int) (A : ByteArray) (h : S (signL op) = A) (w : World) :
    Calls Tryz.prog 126 #[.int .i64 op] w fun e w' => e = .returned (.string A) ∧ w' = w := by
  subst h; exact sign_any op w
theorem sign_empty (op : Int) : (signL op).isEmpty = !opOk op := by
  by_cases h : opOk op = true
  · simp [opOk] at h
    have h2 : op = 1 ∨ op = 2 ∨ op = 3 ∨ op = 4 ∨ op = 5 := by omega
    rcases h2 with rfl | rfl | rfl | rfl | rfl <;> decide
  · have h' : opOk op = false := by simpa using h
    rw [h']
    simp [opOk] at h'
    unfold signL
    rw [if_neg (by omega), if_neg (by omega), if_neg (by omega), if_neg (by omega), if_neg (by omega)]
    rfl
def CkRel (bs : List Bnd) (w : World) (i : Value) (wr : World) : Prop :=
  ∃ k : Nat, k ≤ bs.length ∧ i = .int .i64 (k : Int) ∧ (bs.take k).all Bnd.ok = true ∧ Below w.heap.size w wr
theorem ran_no {bs : List Bnd} {b : Bnd} (h : b ∈ bs) (hb : b.ok = false) : rangeErr bs = 50 := by
  have : rangeOk bs = false := by
    rw [Bool.eq_false_iff]; intro hr
    have := (rangeOk_all hr).2 b h
    rw [hb] at this; cases this
  unfold rangeErr; rw [this]; rfl
end Go.Proofs.YtjjpngdbbjeaiaaGreatDoor
