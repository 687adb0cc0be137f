/- What Explain's rows give: five tables; a world that holds them. -/
import Derived.Test.YtbgimpeklblcjaaGreatDoorChDoors
import Derived.Test.YtbgimpeklblcjaaGreatDoorExRan
import Derived.Stop.LaidErr
namespace Go.Proofs.YtbgimpeklblcjaaGreatDoor
open Go.ChangeShapes Go.WideShapes Go.ChangeAt Go.RowKit
/-- what each row of Explain lists -/
def listedE : List (String × DataW Unit) := [("math/bits.deBruijn32tab", Rows.laid_math_bits_deBruijn32tab), ("math/bits.deBruijn64tab", Rows.laid_math_bits_deBruijn64tab), ("internal/strconv.uint64pow10", Rows.laid_internal_strconv_uint64pow10), ("unicode/utf8.acceptRanges", Rows.laid_unicode_utf8_acceptRanges), ("unicode/utf8.first", Rows.laid_unicode_utf8_first)]
def litValE : DataW Unit → Value
 | .lit (.int k n) => .int k n
 | _ => undef
def aggValsE : DataW Unit → Array Value
 | .agg xs => (xs.map litValE).toArray
 | _ => #[]
theorem pow10_tabE {W : World} (h : laidMet Tryz.prog listedE W) : Lib.TabIs Tryz.prog W "internal/strconv.uint64pow10" .u64 Lib.pow10Tab :=
 Lib.tabIs_of_head (rest := listedE.drop 3) pow10_named (by kernel_rfl) Tryz.underlying192 Tryz.underlying179 (by kernel_rfl) (by kernel_rfl) h.tail.tail
theorem envI_of {W : World} (h : laidMet Tryz.prog listedE W) (hs : W.ShapedOpen Tryz.prog) : EnvI W := by
 have ht := pow10_tabE h
 have hc := ht.cell pow10_named 0 (by decide)
 exact ⟨⟨maxLen_cell hs, trivial⟩, cell_lt hc, ht⟩
/-- THE WITNESS: the settled world, the five variables holding what their initialisers lay. -/
noncomputable def laidWorldE (os : Os) : World :=
 let w0 := World.holding Tryz.prog os ⟨#[], #[], []⟩
 let put (h : Array Obj) (g : Nat) (cs : Array Value) : Array Obj := h.modify g fun
  | .cells _ t frozen => .cells cs t frozen
  | o => o
 let h1 := put w0.heap 4 (aggValsE Rows.laid_math_bits_deBruijn32tab)
 let h2 := put h1 5 (aggValsE Rows.laid_math_bits_deBruijn64tab)
 let h3 := put h2 1 (aggValsE Rows.laid_internal_strconv_uint64pow10)
 let h4 := put h3 3 ((List.range 16).flatMap fun i => [Value.int .u8 (Lib.accLo i), Value.int .u8 (Lib.accHi i)]).toArray
 let h5 := put h4 2 (Lib.firstTab.map fun z => Value.int .u8 z).toArray
 { w0 with heap := h5 }
set_option maxRecDepth 1000000 in
theorem laid_metE (os : Os) (args : Array Value) : laidMet Tryz.prog listedE ((laidWorldE os).forCall (fun _ _ => 0) ⟨#[], args, []⟩).memory :=
 (LaidIn.of_run [4, 5, 1, 3, 2] 8 (by kernel_rfl) (by kernel_rfl) (by kernel_rfl) (by kernel_rfl)).met
set_option maxRecDepth 100000 in
theorem int_boundsE {a : Int} (h : (Lit.int .i64 a).wf = true) : -9223372036854775808 ≤ a ∧ a ≤ 9223372036854775807 := by
 simp only [Lit.wf, Bool.and_eq_true, decide_eq_true_eq] at h
 exact ⟨h.1, h.2⟩
set_option maxRecDepth 100000 in
theorem need_capE {W : World} {r : Reach} {b0 n c : Nat} {a : Option Addr} (hv : Cell.okWide Tryz.prog W r b0 24 (.slice a n c)) : n ≤ c := by
 have ht := Tryz.underlying24
 simp only [Cell.okWide, ht] at hv
 cases a with
 | some a => simp only [Cell.ok, ht] at hv; exact hv.1
 | none =>
  cases n with
  | zero => exact Nat.zero_le _
  | succ n => simp [Cell.ok, ht] at hv
theorem case_types : Tryz.prog.cellTypes Tryz.prog.depth 26 = some [22, 23, 24] := by kernel_rfl
set_option maxRecDepth 100000 in
theorem case_cap {W : World} {r : Reach} {b0 : Nat} {pk lk nv : Value} (hv : Value.okWide Tryz.prog W r b0 26 (.agg #[pk, lk, nv])) : ∀ a n c, nv = .slice a n c → n ≤ c := by
 intro a n c hnv
 subst hnv
 have ht := Tryz.underlying26
 simp only [Value.okWide, ht] at hv
 obtain ⟨cs, hcs, _, ts, hts, _, hc⟩ := hv
 injection hcs with hcs
 subst hcs
 rw [case_types] at hts
 injection hts with hts
 subst hts
 obtain ⟨u, hu, hcell⟩ := hc 2 _ rfl
 have hu2 : u = 24 := by injection hu with hu; exact hu.symm
 subst hu2
 exact need_capE hcell
end Go.Proofs.YtbgimpeklblcjaaGreatDoor
