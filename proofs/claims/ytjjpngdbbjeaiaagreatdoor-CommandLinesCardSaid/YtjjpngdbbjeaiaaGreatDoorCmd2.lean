/- The program's commands: the table: a walk. -/
import Derived.Test.YtjjpngdbbjeaiaaGreatDoorCmd1
import Derived.Deep.MidRow
import Derived.Deep.WholeRow
namespace Go.Proofs.YtjjpngdbbjeaiaaGreatDoor
open Go.RowKit
/-- the table as a value -/
def formsA : Array Value := #[.string ⟨#[114, 101, 103, 105, 115, 116, 101, 114]⟩, .string ⟨#[110, 110]⟩, .bool false, .string ⟨#[112, 117, 98, 108, 105, 115, 104]⟩, .string ⟨#[110, 118]⟩, .bool true, .string ⟨#[121, 97, 110, 107]⟩, .string ⟨#[110, 110, 118]⟩, .bool false, .string ⟨#[117, 110, 121, 97, 110, 107]⟩, .string ⟨#[110, 110, 118]⟩, .bool false, .string ⟨#[100, 101, 112, 114, 101, 99, 97, 116, 101]⟩, .string ⟨#[110, 110, 118]⟩, .bool true, .string ⟨#[113, 117, 101, 114, 121]⟩, .string ⟨#[110]⟩, .bool false, .string ⟨#[113, 117, 101, 114, 121]⟩, .string ⟨#[110, 118]⟩, .bool false, .string ⟨#[100, 105, 102, 102]⟩, .string ⟨#[110, 118, 118]⟩, .bool false, .string ⟨#[114, 101, 115, 111, 108, 118, 101]⟩, .string ⟨#[115]⟩, .bool true, .string ⟨#[114, 101, 99, 104, 101, 99, 107]⟩, .string ⟨#[110, 118, 110, 118]⟩, .bool false]
def formsZ : Array Value := #[.string ⟨#[]⟩, .string ⟨#[]⟩, .bool false, .string ⟨#[]⟩, .string ⟨#[]⟩, .bool false, .string ⟨#[]⟩, .string ⟨#[]⟩, .bool false, .string ⟨#[]⟩, .string ⟨#[]⟩, .bool false, .string ⟨#[]⟩, .string ⟨#[]⟩, .bool false, .string ⟨#[]⟩, .string ⟨#[]⟩, .bool false, .string ⟨#[]⟩, .string ⟨#[]⟩, .bool false, .string ⟨#[]⟩, .string ⟨#[]⟩, .bool false, .string ⟨#[]⟩, .string ⟨#[]⟩, .bool false, .string ⟨#[]⟩, .string ⟨#[]⟩, .bool false]
theorem formsZ_size : formsZ.size = 30 := rfl
theorem formsA_size : formsA.size = 30 := rfl
theorem forms_info : (Tryz.prog.info? 140).map (fun i => (i.zero, i.size)) = some (some (.agg formsZ), 30) := by kernel_rfl
theorem forms_there (w : World) : (w.alloc (.cells formsZ 140)).there w.heap.size 0 formsA.size := by
  intro j hj
  rw [formsA_size, ← formsZ_size] at hj
  constructor
  · simp only [World.cell?, Below_heap_new, Nat.zero_add, Option.isSome_none, Bool.false_eq_true, if_false]
    simp [hj]
  · simp only [World.frozen?, Below_heap_new]
    simp
theorem forms_one : formsA.all (·.oneCell') = true := by kernel_rfl
theorem wpList_build_run {P : Program} {ops : Array Oper} {rest : List Oper} {op : Oper} {a : Act} {w : World} {Q : Exit → Act → World → Prop} (hgd : op.guard = none) (t : TypeId) (parts : Array (Nat × Operand)) (ho : op.op = .build t parts)
    (ps : Array (Nat × Value)) (hp : (parts.map fun (i, x) => (i, a.eval x)) = ps) (v : Value) (hr : (Instr.build t ps).run P w = .ok v w)
    (h : wpList P ops Q rest (a.put op.dst v) w) : wpList P ops Q (op :: rest) a w :=
  wpList_plain hgd fun _ hK => by
    unfold Oper.wp execOp
    simp only [ho, hp, Sem.run_bind, hr, Result.andThen_ok, Sem.run_pure]
    exact hK _ _ h
theorem forms_build (w : World) : (Instr.build 140 #[(0, .agg #[.string ⟨#[114, 101, 103, 105, 115, 116, 101, 114]⟩, .string ⟨#[110, 110]⟩, .bool false]), (1, .agg #[.string ⟨#[112, 117, 98, 108, 105, 115, 104]⟩, .string ⟨#[110, 118]⟩, .bool true]), (2, .agg #[.string ⟨#[121, 97, 110, 107]⟩, .string ⟨#[110, 110, 118]⟩, .bool false]), (3, .agg #[.string ⟨#[117, 110, 121, 97, 110, 107]⟩, .string ⟨#[110, 110, 118]⟩, .bool false]), (4, .agg #[.string ⟨#[100, 101, 112, 114, 101, 99, 97, 116, 101]⟩, .string ⟨#[110, 110, 118]⟩, .bool true]), (5, .agg #[.string ⟨#[113, 117, 101, 114, 121]⟩, .string ⟨#[110]⟩, .bool false]), (6, .agg #[.string ⟨#[113, 117, 101, 114, 121]⟩, .string ⟨#[110, 118]⟩, .bool false]), (7, .agg #[.string ⟨#[100, 105, 102, 102]⟩, .string ⟨#[110, 118, 118]⟩, .bool false]), (8, .agg #[.string ⟨#[114, 101, 115, 111, 108, 118, 101]⟩, .string ⟨#[115]⟩, .bool true]), (9, .agg #[.string ⟨#[114, 101, 99, 104, 101, 99, 107]⟩, .string ⟨#[110, 118, 110, 118]⟩, .bool false])]).run Tryz.prog w = .ok (.agg formsA) w := by kernel_rfl
set_option maxRecDepth 100000 in
set_option maxHeartbeats 4000000 in
theorem forms_any (w : World) : Calls Tryz.prog 89 #[] w fun e w' => e = .returned (.agg formsA) ∧ Below w.heap.size w w' := by
  obtain ⟨hz, hn⟩ := zero_of_info forms_info
  have hst := run_storeCells_new (P := Tryz.prog) w 140 formsZ formsA hn (by rw [formsA_size, formsZ_size]) forms_one
  have hld := run_loadVar_new (P := Tryz.prog) w 140 formsA 10 139 Tryz.underlying140 hn
  go_enter Tryz.func89, Tryz.ntmps89
  go_wp2_with (refine wpList_build_run rfl 140 _ rfl #[(0, .agg #[.string ⟨#[114, 101, 103, 105, 115, 116, 101, 114]⟩, .string ⟨#[110, 110]⟩, .bool false]), (1, .agg #[.string ⟨#[112, 117, 98, 108, 105, 115, 104]⟩, .string ⟨#[110, 118]⟩, .bool true]), (2, .agg #[.string ⟨#[121, 97, 110, 107]⟩, .string ⟨#[110, 110, 118]⟩, .bool false]), (3, .agg #[.string ⟨#[117, 110, 121, 97, 110, 107]⟩, .string ⟨#[110, 110, 118]⟩, .bool false]), (4, .agg #[.string ⟨#[100, 101, 112, 114, 101, 99, 97, 116, 101]⟩, .string ⟨#[110, 110, 118]⟩, .bool true]), (5, .agg #[.string ⟨#[113, 117, 101, 114, 121]⟩, .string ⟨#[110]⟩, .bool false]), (6, .agg #[.string ⟨#[113, 117, 101, 114, 121]⟩, .string ⟨#[110, 118]⟩, .bool false]), (7, .agg #[.string ⟨#[100, 105, 102, 102]⟩, .string ⟨#[110, 118, 118]⟩, .bool false]), (8, .agg #[.string ⟨#[114, 101, 115, 111, 108, 118, 101]⟩, .string ⟨#[115]⟩, .bool true]), (9, .agg #[.string ⟨#[114, 101, 99, 104, 101, 99, 107]⟩, .string ⟨#[110, 118, 110, 118]⟩, .bool false])] ?_ (.agg formsA) (forms_build _) ?_)
  refine bodyPost_ret (v := .agg formsA) ?_ rfl ⟨rfl, (Below.refl _ _).alloc (Nat.le_refl _) _⟩
  simp [results, Tryz.results89, asAddr, hld]
end Go.Proofs.YtjjpngdbbjeaiaaGreatDoor
