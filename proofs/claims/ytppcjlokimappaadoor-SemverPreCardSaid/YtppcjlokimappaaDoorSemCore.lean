/- The program's versions: Core: a walk. -/
import Derived.Test.YtppcjlokimappaaDoorSemProg6
import Derived.Test.YtppcjlokimappaaDoorSemProg4
import Derived.Test.YtppcjlokimappaaDoorSemVers
namespace Go.Proofs.YtppcjlokimappaaDoor
open Go.RowKit
theorem verErr_cases (a b c : Int) (p : List UInt8) : (verErr a b c p = 0 ∧ verOk a b c p = true) ∨ verErr a b c p = 40 := by
  unfold verErr
  cases verOk a b c p
  · right; rfl
  · left; exact ⟨rfl, rfl⟩
theorem cmpP_val (x y : V4) (r : Int) (h : V4.cmp x y = r) (hp : x.p.size ≤ 300) (hp' : y.p.size ≤ 300) (w : World) (hE : Env w) :
    Calls Tryd.prog 7 #[.agg #[.int .i64 x.a, .int .i64 x.b, .int .i64 x.c, .string x.p], .agg #[.int .i64 y.a, .int .i64 y.b, .int .i64 y.c, .string y.p]] w fun e w' => e = .returned (.int .i64 r) ∧ Below w.heap.size w w' := by
  subst h; exact cmpP_any _ _ _ _ _ _ _ _ w hE hp hp'
set_option maxRecDepth 100000 in
set_option maxHeartbeats 1000000 in
theorem core_any (a b c : Int) (p : ByteArray) (w : World) :
    Calls Tryd.prog 6 #[.agg #[.int .i64 a, .int .i64 b, .int .i64 c, .string p]] w fun e w' => e = .returned (.agg #[.int .i64 a, .int .i64 b, .int .i64 c, .string ⟨#[]⟩]) ∧ Below w.heap.size w w' := by
  go_enter Tryd.func6, Tryd.ntmps6
  go_wp2_with fail
  exact bodyPost_ret (v := .agg #[.int .i64 a, .int .i64 b, .int .i64 c, .string ⟨#[]⟩]) (by simp [results, Tryd.results6, go_sem]) rfl ⟨rfl, ((Below.refl _ _).alloc (Nat.le_refl _) _).alloc (by simp) _⟩
end Go.Proofs.YtppcjlokimappaaDoor
