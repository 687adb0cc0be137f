/- What the rows of layer 4 give and ask: the listed variables; a world that holds them. -/
import Derived.Test.YtboajinaiceekaaGreatDoorCards
import Derived.Test.YtboajinaiceekaaGreatDoorTie
import Derived.Test.YtboajinaiceekaaGreatDoorSemLib
import Derived.ProofKit
import Derived.OpenShut
import Derived.ShutString
import Derived.ChangeOld
import Derived.Deep.DeepHandedRow
import Derived.Deep.DeepWitnessRowRef
import Derived.Lib.LaidU8
import Derived.Lib.LaidIn
import Derived.Lib.LaidTab
import Derived.Lib.SmallJoins
import Derived.Stop.LaidErr
namespace Go.Proofs.YtboajinaiceekaaGreatDoor
open Go.ChangeShapes Go.WideShapes Go.ChangeAt Go.RowKit
theorem own : ownKnob Tryz.prog.godebug = none := by kernel_rfl
theorem laidOut : laidOutB Tryz.prog = true := by kernel_rfl
/-- what each row of layer 4 lists -/
def listed : List (String × DataW Unit) := [("math/bits.deBruijn32tab", Rows.laid_math_bits_deBruijn32tab), ("math/bits.deBruijn64tab", Rows.laid_math_bits_deBruijn64tab), ("internal/strconv.uint64pow10", Rows.laid_internal_strconv_uint64pow10), ("unicode/utf8.acceptRanges", Rows.laid_unicode_utf8_acceptRanges), ("strconv.ErrRange", Rows.laid_strconv_ErrRange), ("strconv.ErrSyntax", Rows.laid_strconv_ErrSyntax), ("unicode/utf8.first", Rows.laid_unicode_utf8_first)]
def litVal : DataW Unit → Value
  | .lit (.int k n) => .int k n
  | _ => undef
def aggVals : DataW Unit → Array Value
  | .agg xs => (xs.map litVal).toArray
  | _ => #[]
theorem maxLen_cell {W : World} (h : W.ShapedOpen Tryz.prog) : ∃ m, W.cell? ⟨0, 0, none⟩ = some (.int .i64 m) :=
  cell_of_shapedOpen_int (zero := #[.int .i64 0]) (t := 3) h (of_decide_eq_true (by kernel_rfl)) (by kernel_rfl) rfl (by kernel_rfl) (by kernel_rfl) Tryz.underlying3
theorem pow10_tab {W : World} (h : laidMet Tryz.prog listed W) : Lib.TabIs Tryz.prog W "internal/strconv.uint64pow10" .u64 Lib.pow10Tab :=
  Lib.tabIs_of_head (rest := listed.drop 3) pow10_named (by kernel_rfl) Tryz.underlying174 Tryz.underlying122 (by kernel_rfl) (by kernel_rfl) h.tail.tail
theorem env_of {W : World} (h : laidMet Tryz.prog listed W) (hs : W.ShapedOpen Tryz.prog) : Env W := by
  have ht := pow10_tab h
  have hc := ht.cell pow10_named 0 (by decide)
  exact ⟨maxLen_cell hs, cell_lt hc, ht⟩
/-- THE WITNESS: the settled world, two blocks more (the two errors' structs), the variables holding what their initialisers lay. -/
noncomputable def laidWorld (os : Os) : World :=
  let N := (World.settled Tryz.prog os).heap.size
  let w0 := World.holding Tryz.prog os ⟨#[.cells #[.string ⟨#[118, 97, 108, 117, 101, 32, 111, 117, 116, 32, 111, 102, 32, 114, 97, 110, 103, 101]⟩] 167, .cells #[.string ⟨#[105, 110, 118, 97, 108, 105, 100, 32, 115, 121, 110, 116, 97, 120]⟩] 167], #[], []⟩
  let put (h : Array Obj) (g : Nat) (cs : Array Value) : Array Obj := h.modify g fun
    | .cells _ t frozen => .cells cs t frozen
    | o => o
  let h1 := put w0.heap 6 (aggVals Rows.laid_math_bits_deBruijn32tab)
  let h2 := put h1 7 (aggVals Rows.laid_math_bits_deBruijn64tab)
  let h3 := put h2 5 (aggVals Rows.laid_internal_strconv_uint64pow10)
  let h4 := put h3 4 ((List.range 16).flatMap fun i => [Value.int .u8 (Lib.accLo i), Value.int .u8 (Lib.accHi i)]).toArray
  let h5 := put h4 2 #[.iface 165 (.pointer (some ⟨N, 0, none⟩))]
  let h6 := put h5 1 #[.iface 165 (.pointer (some ⟨N + 1, 0, none⟩))]
  let h7 := put h6 3 (Lib.firstTab.map fun z => Value.int .u8 z).toArray
  { w0 with heap := h7 }
set_option maxRecDepth 1000000 in
theorem laid_met (os : Os) (args : Array Value) : laidMet Tryz.prog listed ((laidWorld os).forCall (fun _ _ => 0) ⟨#[], args, []⟩).memory :=
  (LaidIn.of_run [6, 7, 5, 4, 2, (World.settled Tryz.prog default).heap.size, 1, (World.settled Tryz.prog default).heap.size + 1, 3] 8 (by kernel_rfl) (by kernel_rfl) (by kernel_rfl) (by kernel_rfl)).met
section
variable {H : Type} {enc : TypeId × Value → H} {W : World} {r : Reach} {b0 base : Nat} {sp : Nat → Bool} {held : Bool}
set_option maxRecDepth 100000 in
/-- a version that came in -/
theorem open_ver {v : Value} {d : DataW H} {p : List MemPlace} (hv : Value.okWide Tryz.prog W r b0 45 v) (h : DataW.Trod enc Tryz.prog W base sp held 45 v d p) :
    ∃ (a b c : Int) (s : ByteArray), v = .agg #[.int .i64 a, .int .i64 b, .int .i64 c, .string s] ∧ d = .agg [.lit (.int .i64 a), .lit (.int .i64 b), .lit (.int .i64 c), .lit (.string s.data.toList)] ∧ s.size ≤ maxLen := by
  obtain ⟨v0, v1, v2, v3, y0, y1, y2, y3, n, rfl, rfl, rfl, t0, t1, t2, t3⟩ := Joins.open_agg4 Tryz.underlying45 (by kernel_rfl) (by kernel_rfl) hv h
  obtain ⟨a, e0, rfl, _⟩ := DataW.trod_int Tryz.underlying3 t0
  obtain ⟨b, e1, rfl, _⟩ := DataW.trod_int Tryz.underlying3 t1
  obtain ⟨c, e2, rfl, _⟩ := DataW.trod_int Tryz.underlying3 t2
  obtain ⟨s, e3, rfl, hs⟩ := DataW.trod_string Tryz.underlying9 t3
  simp at e0 e1 e2 e3
  subst e0 e1 e2 e3
  exact ⟨a, b, c, s, rfl, rfl, hs⟩
end
set_option maxRecDepth 100000 in
theorem maxLen_le {n : Nat} (h : n ≤ maxLen) : n ≤ 9223372036854775807 := by unfold maxLen at h; omega
theorem str_bound {H : Type} {l : List (DataW H)} {s : ByteArray} (hm : DataW.lit (.string s.data.toList) ∈ l) (hk : Rows.uptoSmall H l = true) : s.size ≤ 1048576 := by
  have h := of_decide_eq_true hk
  have key : ∀ l : List (DataW H), DataW.lit (.string s.data.toList) ∈ l → s.size ≤ Rows.uptoBulkAll l := by
    intro l
    induction l with
    | nil => intro h; cases h
    | cons x r ih =>
      intro hm
      simp only [Rows.uptoBulkAll]
      rcases List.mem_cons.1 hm with rfl | hm
      · simp only [Rows.uptoBulk]; rw [Lib.size_eq]; omega
      · have := ih hm; omega
  exact Nat.le_trans (key l hm) h
end Go.Proofs.YtboajinaiceekaaGreatDoor
