/- What each of Solve's laws takes. -/
import Derived.Test.YtllkiedikjgkbaaGreatDoorChPre
import Derived.Test.YtllkiedikjgkbaaGreatDoorSolAw1
namespace Go
theorem int_bounds {a : Int} (h : (Lit.int .i64 a).wf = true) : -9223372036854775808 ≤ a ∧ a ≤ 9223372036854775807 := by
  simp only [Lit.wf, Bool.and_eq_true, decide_eq_true_eq] at h
  exact ⟨h.1, h.2⟩
end Go
