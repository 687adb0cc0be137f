/- The law SemverPre: a walk. -/
import Derived.Test.YtppcjlokimappaaDoorSemProg7
import Derived.Test.YtppcjlokimappaaDoorSemAwake2
namespace Go.Proofs.YtppcjlokimappaaDoor
open Go.RowKit
theorem keepV2 {P : Program} {f : FuncId} {args : Array Value} {v : Value} (w0 w : World) (b0 b1 : Nat) (x00 x01 x02 x03 x10 x11 x12 x13 : Value)
    (h : w.cell? ⟨b0, 0, none⟩ = some x00 ∧ w.cell? ⟨b0, 1, none⟩ = some x01 ∧ w.cell? ⟨b0, 2, none⟩ = some x02 ∧ w.cell? ⟨b0, 3, none⟩ = some x03 ∧ w.cell? ⟨b1, 0, none⟩ = some x10 ∧ w.cell? ⟨b1, 1, none⟩ = some x11 ∧ w.cell? ⟨b1, 2, none⟩ = some x12 ∧ w.cell? ⟨b1, 3, none⟩ = some x13 ∧ Below w0.heap.size w0 w)
    (hc : Calls P f args w fun e w' => e = .returned v ∧ Below w.heap.size w w') :
    Calls P f args w fun e w' => e = .returned v ∧ (w'.cell? ⟨b0, 0, none⟩ = some x00 ∧ w'.cell? ⟨b0, 1, none⟩ = some x01 ∧ w'.cell? ⟨b0, 2, none⟩ = some x02 ∧ w'.cell? ⟨b0, 3, none⟩ = some x03 ∧ w'.cell? ⟨b1, 0, none⟩ = some x10 ∧ w'.cell? ⟨b1, 1, none⟩ = some x11 ∧ w'.cell? ⟨b1, 2, none⟩ = some x12 ∧ w'.cell? ⟨b1, 3, none⟩ = some x13 ∧ Below w0.heap.size w0 w') := by
  obtain ⟨h00, h01, h02, h03, h10, h11, h12, h13, hz⟩ := h
  exact hc.mono fun _ _ ⟨he, hb⟩ => ⟨he, (hb.cell (p := ⟨b0, 0, none⟩) (cell_lt h00)).trans h00, (hb.cell (p := ⟨b0, 1, none⟩) (cell_lt h01)).trans h01, (hb.cell (p := ⟨b0, 2, none⟩) (cell_lt h02)).trans h02, (hb.cell (p := ⟨b0, 3, none⟩) (cell_lt h03)).trans h03, (hb.cell (p := ⟨b1, 0, none⟩) (cell_lt h10)).trans h10, (hb.cell (p := ⟨b1, 1, none⟩) (cell_lt h11)).trans h11, (hb.cell (p := ⟨b1, 2, none⟩) (cell_lt h12)).trans h12, (hb.cell (p := ⟨b1, 3, none⟩) (cell_lt h13)).trans h13, below_then hz hb⟩
theorem keepW2 (w0 w w' : World) (b0 b1 : Nat) (x00 x01 x02 x03 x10 x11 x12 x13 : Value) (h : w.cell? ⟨b0, 0, none⟩ = some x00 ∧ w.cell? ⟨b0, 1, none⟩ = some x01 ∧ w.cell? ⟨b0, 2, none⟩ = some x02 ∧ w.cell? ⟨b0, 3, none⟩ = some x03 ∧ w.cell? ⟨b1, 0, none⟩ = some x10 ∧ w.cell? ⟨b1, 1, none⟩ = some x11 ∧ w.cell? ⟨b1, 2, none⟩ = some x12 ∧ w.cell? ⟨b1, 3, none⟩ = some x13 ∧ Below w0.heap.size w0 w) (hb : Below w.heap.size w w') : w'.cell? ⟨b0, 0, none⟩ = some x00 ∧ w'.cell? ⟨b0, 1, none⟩ = some x01 ∧ w'.cell? ⟨b0, 2, none⟩ = some x02 ∧ w'.cell? ⟨b0, 3, none⟩ = some x03 ∧ w'.cell? ⟨b1, 0, none⟩ = some x10 ∧ w'.cell? ⟨b1, 1, none⟩ = some x11 ∧ w'.cell? ⟨b1, 2, none⟩ = some x12 ∧ w'.cell? ⟨b1, 3, none⟩ = some x13 ∧ Below w0.heap.size w0 w' := by
  obtain ⟨h00, h01, h02, h03, h10, h11, h12, h13, hz⟩ := h
  exact ⟨(hb.cell (p := ⟨b0, 0, none⟩) (cell_lt h00)).trans h00, (hb.cell (p := ⟨b0, 1, none⟩) (cell_lt h01)).trans h01, (hb.cell (p := ⟨b0, 2, none⟩) (cell_lt h02)).trans h02, (hb.cell (p := ⟨b0, 3, none⟩) (cell_lt h03)).trans h03, (hb.cell (p := ⟨b1, 0, none⟩) (cell_lt h10)).trans h10, (hb.cell (p := ⟨b1, 1, none⟩) (cell_lt h11)).trans h11, (hb.cell (p := ⟨b1, 2, none⟩) (cell_lt h12)).trans h12, (hb.cell (p := ⟨b1, 3, none⟩) (cell_lt h13)).trans h13, below_then hz hb⟩
theorem keepV4 {P : Program} {f : FuncId} {args : Array Value} {v : Value} (w0 w : World) (b0 b1 b2 b3 : Nat) (x00 x01 x02 x03 x10 x11 x12 x13 x20 x21 x22 x23 x30 x31 x32 x33 : Value)
    (h : w.cell? ⟨b0, 0, none⟩ = some x00 ∧ w.cell? ⟨b0, 1, none⟩ = some x01 ∧ w.cell? ⟨b0, 2, none⟩ = some x02 ∧ w.cell? ⟨b0, 3, none⟩ = some x03 ∧ w.cell? ⟨b1, 0, none⟩ = some x10 ∧ w.cell? ⟨b1, 1, none⟩ = some x11 ∧ w.cell? ⟨b1, 2, none⟩ = some x12 ∧ w.cell? ⟨b1, 3, none⟩ = some x13 ∧ w.cell? ⟨b2, 0, none⟩ = some x20 ∧ w.cell? ⟨b2, 1, none⟩ = some x21 ∧ w.cell? ⟨b2, 2, none⟩ = some x22 ∧ w.cell? ⟨b2, 3, none⟩ = some x23 ∧ w.cell? ⟨b3, 0, none⟩ = some x30 ∧ w.cell? ⟨b3, 1, none⟩ = some x31 ∧ w.cell? ⟨b3, 2, none⟩ = some x32 ∧ w.cell? ⟨b3, 3, none⟩ = some x33 ∧ Below w0.heap.size w0 w)
    (hc : Calls P f args w fun e w' => e = .returned v ∧ Below w.heap.size w w') :
    Calls P f args w fun e w' => e = .returned v ∧ (w'.cell? ⟨b0, 0, none⟩ = some x00 ∧ w'.cell? ⟨b0, 1, none⟩ = some x01 ∧ w'.cell? ⟨b0, 2, none⟩ = some x02 ∧ w'.cell? ⟨b0, 3, none⟩ = some x03 ∧ w'.cell? ⟨b1, 0, none⟩ = some x10 ∧ w'.cell? ⟨b1, 1, none⟩ = some x11 ∧ w'.cell? ⟨b1, 2, none⟩ = some x12 ∧ w'.cell? ⟨b1, 3, none⟩ = some x13 ∧ w'.cell? ⟨b2, 0, none⟩ = some x20 ∧ w'.cell? ⟨b2, 1, none⟩ = some x21 ∧ w'.cell? ⟨b2, 2, none⟩ = some x22 ∧ w'.cell? ⟨b2, 3, none⟩ = some x23 ∧ w'.cell? ⟨b3, 0, none⟩ = some x30 ∧ w'.cell? ⟨b3, 1, none⟩ = some x31 ∧ w'.cell? ⟨b3, 2, none⟩ = some x32 ∧ w'.cell? ⟨b3, 3, none⟩ = some x33 ∧ Below w0.heap.size w0 w') := by
  obtain ⟨h00, h01, h02, h03, h10, h11, h12, h13, h20, h21, h22, h23, h30, h31, h32, h33, hz⟩ := h
  exact hc.mono fun _ _ ⟨he, hb⟩ => ⟨he, (hb.cell (p := ⟨b0, 0, none⟩) (cell_lt h00)).trans h00, (hb.cell (p := ⟨b0, 1, none⟩) (cell_lt h01)).trans h01, (hb.cell (p := ⟨b0, 2, none⟩) (cell_lt h02)).trans h02, (hb.cell (p := ⟨b0, 3, none⟩) (cell_lt h03)).trans h03, (hb.cell (p := ⟨b1, 0, none⟩) (cell_lt h10)).trans h10, (hb.cell (p := ⟨b1, 1, none⟩) (cell_lt h11)).trans h11, (hb.cell (p := ⟨b1, 2, none⟩) (cell_lt h12)).trans h12, (hb.cell (p := ⟨b1, 3, none⟩) (cell_lt h13)).trans h13, (hb.cell (p := ⟨b2, 0, none⟩) (cell_lt h20)).trans h20, (hb.cell (p := ⟨b2, 1, none⟩) (cell_lt h21)).trans h21, (hb.cell (p := ⟨b2, 2, none⟩) (cell_lt h22)).trans h22, (hb.cell (p := ⟨b2, 3, none⟩) (cell_lt h23)).trans h23, (hb.cell (p := ⟨b3, 0, none⟩) (cell_lt h30)).trans h30, (hb.cell (p := ⟨b3, 1, none⟩) (cell_lt h31)).trans h31, (hb.cell (p := ⟨b3, 2, none⟩) (cell_lt h32)).trans h32, (hb.cell (p := ⟨b3, 3, none⟩) (cell_lt h33)).trans h33, below_then hz hb⟩
theorem keepW4 (w0 w w' : World) (b0 b1 b2 b3 : Nat) (x00 x01 x02 x03 x10 x11 x12 x13 x20 x21 x22 x23 x30 x31 x32 x33 : Value) (h : w.cell? ⟨b0, 0, none⟩ = some x00 ∧ w.cell? ⟨b0, 1, none⟩ = some x01 ∧ w.cell? ⟨b0, 2, none⟩ = some x02 ∧ w.cell? ⟨b0, 3, none⟩ = some x03 ∧ w.cell? ⟨b1, 0, none⟩ = some x10 ∧ w.cell? ⟨b1, 1, none⟩ = some x11 ∧ w.cell? ⟨b1, 2, none⟩ = some x12 ∧ w.cell? ⟨b1, 3, none⟩ = some x13 ∧ w.cell? ⟨b2, 0, none⟩ = some x20 ∧ w.cell? ⟨b2, 1, none⟩ = some x21 ∧ w.cell? ⟨b2, 2, none⟩ = some x22 ∧ w.cell? ⟨b2, 3, none⟩ = some x23 ∧ w.cell? ⟨b3, 0, none⟩ = some x30 ∧ w.cell? ⟨b3, 1, none⟩ = some x31 ∧ w.cell? ⟨b3, 2, none⟩ = some x32 ∧ w.cell? ⟨b3, 3, none⟩ = some x33 ∧ Below w0.heap.size w0 w) (hb : Below w.heap.size w w') : w'.cell? ⟨b0, 0, none⟩ = some x00 ∧ w'.cell? ⟨b0, 1, none⟩ = some x01 ∧ w'.cell? ⟨b0, 2, none⟩ = some x02 ∧ w'.cell? ⟨b0, 3, none⟩ = some x03 ∧ w'.cell? ⟨b1, 0, none⟩ = some x10 ∧ w'.cell? ⟨b1, 1, none⟩ = some x11 ∧ w'.cell? ⟨b1, 2, none⟩ = some x12 ∧ w'.cell? ⟨b1, 3, none⟩ = some x13 ∧ w'.cell? ⟨b2, 0, none⟩ = some x20 ∧ w'.cell? ⟨b2, 1, none⟩ = some x21 ∧ w'.cell? ⟨b2, 2, none⟩ = some x22 ∧ w'.cell? ⟨b2, 3, none⟩ = some x23 ∧ w'.cell? ⟨b3, 0, none⟩ = some x30 ∧ w'.cell? ⟨b3, 1, none⟩ = some x31 ∧ w'.cell? ⟨b3, 2, none⟩ = some x32 ∧ w'.cell? ⟨b3, 3, none⟩ = some x33 ∧ Below w0.heap.size w0 w' := by
  obtain ⟨h00, h01, h02, h03, h10, h11, h12, h13, h20, h21, h22, h23, h30, h31, h32, h33, hz⟩ := h
  exact ⟨(hb.cell (p := ⟨b0, 0, none⟩) (cell_lt h00)).trans h00, (hb.cell (p := ⟨b0, 1, none⟩) (cell_lt h01)).trans h01, (hb.cell (p := ⟨b0, 2, none⟩) (cell_lt h02)).trans h02, (hb.cell (p := ⟨b0, 3, none⟩) (cell_lt h03)).trans h03, (hb.cell (p := ⟨b1, 0, none⟩) (cell_lt h10)).trans h10, (hb.cell (p := ⟨b1, 1, none⟩) (cell_lt h11)).trans h11, (hb.cell (p := ⟨b1, 2, none⟩) (cell_lt h12)).trans h12, (hb.cell (p := ⟨b1, 3, none⟩) (cell_lt h13)).trans h13, (hb.cell (p := ⟨b2, 0, none⟩) (cell_lt h20)).trans h20, (hb.cell (p := ⟨b2, 1, none⟩) (cell_lt h21)).trans h21, (hb.cell (p := ⟨b2, 2, none⟩) (cell_lt h22)).trans h22, (hb.cell (p := ⟨b2, 3, none⟩) (cell_lt h23)).trans h23, (hb.cell (p := ⟨b3, 0, none⟩) (cell_lt h30)).trans h30, (hb.cell (p := ⟨b3, 1, none⟩) (cell_lt h31)).trans h31, (hb.cell (p := ⟨b3, 2, none⟩) (cell_lt h32)).trans h32, (hb.cell (p := ⟨b3, 3, none⟩) (cell_lt h33)).trans h33, below_then hz hb⟩
theorem keepX2 (w0 w : World) (o : Obj) (b0 b1 : Nat) (x00 x01 x02 x03 x10 x11 x12 x13 : Value) (h : w.cell? ⟨b0, 0, none⟩ = some x00 ∧ w.cell? ⟨b0, 1, none⟩ = some x01 ∧ w.cell? ⟨b0, 2, none⟩ = some x02 ∧ w.cell? ⟨b0, 3, none⟩ = some x03 ∧ w.cell? ⟨b1, 0, none⟩ = some x10 ∧ w.cell? ⟨b1, 1, none⟩ = some x11 ∧ w.cell? ⟨b1, 2, none⟩ = some x12 ∧ w.cell? ⟨b1, 3, none⟩ = some x13 ∧ Below w0.heap.size w0 w) : (w.alloc o).cell? ⟨b0, 0, none⟩ = some x00 ∧ (w.alloc o).cell? ⟨b0, 1, none⟩ = some x01 ∧ (w.alloc o).cell? ⟨b0, 2, none⟩ = some x02 ∧ (w.alloc o).cell? ⟨b0, 3, none⟩ = some x03 ∧ (w.alloc o).cell? ⟨b1, 0, none⟩ = some x10 ∧ (w.alloc o).cell? ⟨b1, 1, none⟩ = some x11 ∧ (w.alloc o).cell? ⟨b1, 2, none⟩ = some x12 ∧ (w.alloc o).cell? ⟨b1, 3, none⟩ = some x13 ∧ Below w0.heap.size w0 (w.alloc o) :=
  keepW2 w0 w _ b0 b1 _ _ _ _ _ _ _ _ h ((Below.refl _ _).alloc (Nat.le_refl _) o)
theorem keepY2 (w0 w : World) (o : Obj) (b0 b1 : Nat) (x00 x01 x02 x03 x10 x11 x12 x13 : Value) (h : w.drew.cell? ⟨b0, 0, none⟩ = some x00 ∧ w.drew.cell? ⟨b0, 1, none⟩ = some x01 ∧ w.drew.cell? ⟨b0, 2, none⟩ = some x02 ∧ w.drew.cell? ⟨b0, 3, none⟩ = some x03 ∧ w.drew.cell? ⟨b1, 0, none⟩ = some x10 ∧ w.drew.cell? ⟨b1, 1, none⟩ = some x11 ∧ w.drew.cell? ⟨b1, 2, none⟩ = some x12 ∧ w.drew.cell? ⟨b1, 3, none⟩ = some x13 ∧ Below w0.heap.size w0 w.drew) : (w.alloc o).drew.cell? ⟨b0, 0, none⟩ = some x00 ∧ (w.alloc o).drew.cell? ⟨b0, 1, none⟩ = some x01 ∧ (w.alloc o).drew.cell? ⟨b0, 2, none⟩ = some x02 ∧ (w.alloc o).drew.cell? ⟨b0, 3, none⟩ = some x03 ∧ (w.alloc o).drew.cell? ⟨b1, 0, none⟩ = some x10 ∧ (w.alloc o).drew.cell? ⟨b1, 1, none⟩ = some x11 ∧ (w.alloc o).drew.cell? ⟨b1, 2, none⟩ = some x12 ∧ (w.alloc o).drew.cell? ⟨b1, 3, none⟩ = some x13 ∧ Below w0.heap.size w0 (w.alloc o).drew := by
  have hw : w.cell? ⟨b0, 0, none⟩ = some x00 ∧ w.cell? ⟨b0, 1, none⟩ = some x01 ∧ w.cell? ⟨b0, 2, none⟩ = some x02 ∧ w.cell? ⟨b0, 3, none⟩ = some x03 ∧ w.cell? ⟨b1, 0, none⟩ = some x10 ∧ w.cell? ⟨b1, 1, none⟩ = some x11 ∧ w.cell? ⟨b1, 2, none⟩ = some x12 ∧ w.cell? ⟨b1, 3, none⟩ = some x13 ∧ Below w0.heap.size w0 w := by
    obtain ⟨h00, h01, h02, h03, h10, h11, h12, h13, h8⟩ := h
    exact ⟨h00, h01, h02, h03, h10, h11, h12, h13, ⟨h8.os, h8.tape, h8.output, h8.size, h8.block⟩⟩
  exact keepW2 w0 w _ b0 b1 _ _ _ _ _ _ _ _ hw (((Below.refl _ _).alloc (Nat.le_refl _) o).drew)
theorem keepC2 {P : Program} {f : FuncId} {args : Array Value} {v : Value} (w0 w : World) (b0 b1 : Nat) (x00 x01 x02 x03 x10 x11 x12 x13 : Value)
    (h : w.cell? ⟨b0, 0, none⟩ = some x00 ∧ w.cell? ⟨b0, 1, none⟩ = some x01 ∧ w.cell? ⟨b0, 2, none⟩ = some x02 ∧ w.cell? ⟨b0, 3, none⟩ = some x03 ∧ w.cell? ⟨b1, 0, none⟩ = some x10 ∧ w.cell? ⟨b1, 1, none⟩ = some x11 ∧ w.cell? ⟨b1, 2, none⟩ = some x12 ∧ w.cell? ⟨b1, 3, none⟩ = some x13 ∧ Below w0.heap.size w0 w)
    (hc : Calls P f args w fun e w' => e = .returned v ∧ Below w.heap.size w w') :
    Calls P f args w fun e w' => e = .returned v ∧ (w'.cell? ⟨b0, 0, none⟩ = some x00 ∧ w'.cell? ⟨b0, 1, none⟩ = some x01 ∧ w'.cell? ⟨b0, 2, none⟩ = some x02 ∧ w'.cell? ⟨b0, 3, none⟩ = some x03 ∧ w'.cell? ⟨b1, 0, none⟩ = some x10 ∧ w'.cell? ⟨b1, 1, none⟩ = some x11 ∧ w'.cell? ⟨b1, 2, none⟩ = some x12 ∧ w'.cell? ⟨b1, 3, none⟩ = some x13 ∧ Below w0.heap.size w0 w') ∧ (∀ b o, b < w.heap.size → w'.cell? ⟨b, o, none⟩ = w.cell? ⟨b, o, none⟩) ∧ (∀ b o, b < w.heap.size → w'.frozen? ⟨b, o, none⟩ = w.frozen? ⟨b, o, none⟩) ∧ w.heap.size ≤ w'.heap.size :=
  hc.mono fun _ _ ⟨he, hb⟩ => ⟨he, keepW2 w0 w _ b0 b1 _ _ _ _ _ _ _ _ h hb, fun b o h => hb.cell (p := ⟨b, o, none⟩) h, fun b o h => hb.frozen (p := ⟨b, o, none⟩) h, hb.size⟩
theorem cellB {w w' : World} {B b o : Nat} {x : Value} (h : Below B w w') (hb : b < B) (k : w.cell? ⟨b, o, none⟩ = some x) : w'.cell? ⟨b, o, none⟩ = some x := (h.cell (p := ⟨b, o, none⟩) hb).trans k
theorem vers_two (w : World) (x y : V4) (T : TypeId) (cap B : Nat) (cs : Array Value) (hB : B = w.heap.size) (hcs : cs = #[.int .i64 x.a, .int .i64 x.b, .int .i64 x.c, .string x.p, .int .i64 y.a, .int .i64 y.b, .int .i64 y.c, .string y.p]) :
    Vers (w.alloc (.cells cs T)) (.slice (some ⟨B, 0, none⟩) 2 cap) [x, y] := vers_new w [x, y] T cap B 2 cs hB hcs rfl (by simp) (by unfold maxLen; simp)
set_option maxRecDepth 100000 in
theorem core_exact (a b c : Int) (p : ByteArray) (w : World) :
    Calls Tryd.prog 6 #[.agg #[.int .i64 a, .int .i64 b, .int .i64 c, .string p]] w fun e w' => e = .returned (.agg #[.int .i64 a, .int .i64 b, .int .i64 c, .string ⟨#[]⟩]) ∧ w' = (w.alloc (.cells #[.int .i64 a, .int .i64 b, .int .i64 c, .string ⟨#[]⟩] 23)).alloc (.cells #[.int .i64 a, .int .i64 b, .int .i64 c, .string ⟨#[]⟩] 23) := by
  go_enter Tryd.func6, Tryd.ntmps6
  go_wp2_with fail
  exact bodyPost_ret (v := .agg #[.int .i64 a, .int .i64 b, .int .i64 c, .string ⟨#[]⟩]) (by simp [results, Tryd.results6, go_sem]) rfl ⟨rfl, rfl⟩
theorem core_as (x : V4) (w : World) :
    Calls Tryd.prog 6 #[.agg #[.int .i64 x.a, .int .i64 x.b, .int .i64 x.c, .string x.p]] w fun e w' => e = .returned (.agg #[.int .i64 x.a, .int .i64 x.b, .int .i64 x.c, .string ⟨#[]⟩]) ∧ Below w.heap.size w w' := core_any _ _ _ _ w
theorem pre_below (a b c : Int) (p : List UInt8) (hp : p ≠ []) : cmpV a b c p a b c [] = -1 := by
  unfold cmpV cmp3
  rw [ord_eq, ord_eq, ord_eq, or2_zero, or2_zero, or2_zero]
  unfold cmpPre
  cases p with
  | nil => exact absurd rfl hp
  | cons x r => rfl
theorem pre_above (a b c : Int) (p : List UInt8) (hp : p ≠ []) : cmpV a b c [] a b c p = 1 := by
  unfold cmpV cmp3
  rw [ord_eq, ord_eq, ord_eq, or2_zero, or2_zero, or2_zero]
  unfold cmpPre
  cases p with
  | nil => exact absurd rfl hp
  | cons x r => rfl
theorem core_cmp (a b c a' b' c' : Int) (p p' : List UInt8) (h : cmpV a' b' c' [] a b c [] ≠ 0) : cmpV a' b' c' p' a b c p = cmpV a' b' c' [] a b c [] := by
  unfold cmpV at h ⊢
  rw [show cmpPre [] [] = 0 from rfl, or2_zero_right] at h ⊢
  rw [or2_ne h]
set_option maxRecDepth 100000 in
set_option maxHeartbeats 4000000 in
theorem semverPre_walk (a b c : Int) (p : ByteArray) (a' b' c' : Int) (p' : ByteArray) (w : World) (hE : Env w)
    (hp : p.size ≤ 9223372036854775807) (hp' : p'.size ≤ 9223372036854775807) :
    Calls Tryd.prog 3 #[.agg #[.int .i64 a, .int .i64 b, .int .i64 c, .string p], .agg #[.int .i64 a', .int .i64 b', .int .i64 c', .string p']] w fun e w' => e = .returned (.bool true) ∧ Below w.heap.size w w' := by
  have HE := Lib.hid hE
  clear hE
  have hW : Below w.heap.size w ((w.alloc (.cells #[.int .i64 a, .int .i64 b, .int .i64 c, .string p] 23)).alloc (.cells #[.int .i64 a', .int .i64 b', .int .i64 c', .string p'] 23)) := ((Below.refl w.heap.size w).alloc (Nat.le_refl _) _).alloc (by simp) _
  obtain ⟨r, hr⟩ : ∃ r, verErr a b c p.data.toList = r := ⟨_, rfl⟩
  obtain ⟨r', hr'⟩ : ∃ r, verErr a' b' c' p'.data.toList = r := ⟨_, rfl⟩
  have hc := verErr_cases a b c p.data.toList
  have hc' := verErr_cases a' b' c' p'.data.toList
  rw [hr] at hc
  rw [hr'] at hc'
  have HR := Lib.hid hr
  have HR' := Lib.hid hr'
  clear hr hr'
  have hS : ((w.alloc (.cells #[.int .i64 a, .int .i64 b, .int .i64 c, .string p] 23)).alloc (.cells #[.int .i64 a', .int .i64 b', .int .i64 c', .string p'] 23)).cell? ⟨w.heap.size, 0, none⟩ = some (.int .i64 a) ∧ ((w.alloc (.cells #[.int .i64 a, .int .i64 b, .int .i64 c, .string p] 23)).alloc (.cells #[.int .i64 a', .int .i64 b', .int .i64 c', .string p'] 23)).cell? ⟨w.heap.size, 1, none⟩ = some (.int .i64 b) ∧ ((w.alloc (.cells #[.int .i64 a, .int .i64 b, .int .i64 c, .string p] 23)).alloc (.cells #[.int .i64 a', .int .i64 b', .int .i64 c', .string p'] 23)).cell? ⟨w.heap.size, 2, none⟩ = some (.int .i64 c) ∧ ((w.alloc (.cells #[.int .i64 a, .int .i64 b, .int .i64 c, .string p] 23)).alloc (.cells #[.int .i64 a', .int .i64 b', .int .i64 c', .string p'] 23)).cell? ⟨w.heap.size, 3, none⟩ = some (.string p) ∧ ((w.alloc (.cells #[.int .i64 a, .int .i64 b, .int .i64 c, .string p] 23)).alloc (.cells #[.int .i64 a', .int .i64 b', .int .i64 c', .string p'] 23)).cell? ⟨w.heap.size + 1, 0, none⟩ = some (.int .i64 a') ∧ ((w.alloc (.cells #[.int .i64 a, .int .i64 b, .int .i64 c, .string p] 23)).alloc (.cells #[.int .i64 a', .int .i64 b', .int .i64 c', .string p'] 23)).cell? ⟨w.heap.size + 1, 1, none⟩ = some (.int .i64 b') ∧ ((w.alloc (.cells #[.int .i64 a, .int .i64 b, .int .i64 c, .string p] 23)).alloc (.cells #[.int .i64 a', .int .i64 b', .int .i64 c', .string p'] 23)).cell? ⟨w.heap.size + 1, 2, none⟩ = some (.int .i64 c') ∧ ((w.alloc (.cells #[.int .i64 a, .int .i64 b, .int .i64 c, .string p] 23)).alloc (.cells #[.int .i64 a', .int .i64 b', .int .i64 c', .string p'] 23)).cell? ⟨w.heap.size + 1, 3, none⟩ = some (.string p') ∧ Below w.heap.size w ((w.alloc (.cells #[.int .i64 a, .int .i64 b, .int .i64 c, .string p] 23)).alloc (.cells #[.int .i64 a', .int .i64 b', .int .i64 c', .string p'] 23)) := by
    refine ⟨?_, ?_, ?_, ?_, ?_, ?_, ?_, ?_, hW⟩ <;> go_simp
  have HS0 := Lib.hid hS
  clear hS
  rcases hc with ⟨rfl, hok⟩ | rfl
  case inr =>
    clear hc'
    go_enter Tryd.func3, Tryd.ntmps3
    go_wp2_with fail
    refine (keepV2 w _ _ _ _ _ _ _ _ _ _ _ HS0.out (checkP_as a b c p 40 HR.out _ (HE.out.below hW) hp)).mono ?_
    rintro e w1 ⟨rfl, hS1⟩
    go_wp2_with fail
    have hb1 := hS1.2.2.2.2.2.2.2.2
    refine (awake_any _ (HE.out.below hb1)).mono ?_
    rintro e w2 ⟨rfl, hb2⟩
    go_wp2_with fail
    go_ret
    exact ⟨rfl, below_then hb1 hb2⟩
  rcases hc' with ⟨rfl, hok'⟩ | rfl
  case inr =>
    go_enter Tryd.func3, Tryd.ntmps3
    go_wp2_with fail
    refine (keepV2 w _ _ _ _ _ _ _ _ _ _ _ HS0.out (checkP_as a b c p 0 HR.out _ (HE.out.below hW) hp)).mono ?_
    rintro e w1 ⟨rfl, hS1⟩
    have hb1 := hS1.2.2.2.2.2.2.2.2
    have HS1 := Lib.hid hS1
    obtain ⟨k00, k01, k02, k03, k10, k11, k12, k13, _⟩ := hS1
    go_wp2_with fail
    refine (keepV2 w _ _ _ _ _ _ _ _ _ _ _ HS1.out (checkP_as a' b' c' p' 40 HR'.out _ (HE.out.below hb1) hp')).mono ?_
    rintro e w2 ⟨rfl, hS2⟩
    have hb2 := hS2.2.2.2.2.2.2.2.2
    clear hS2 k00 k01 k02 k03 k10 k11 k12 k13
    go_wp2_with fail
    refine (awake_any _ (HE.out.below hb2)).mono ?_
    rintro e w3 ⟨rfl, hb3⟩
    go_wp2_with fail
    go_ret
    exact ⟨rfl, below_then hb2 hb3⟩
  have z1 : p.size ≤ 300 := by have := (verOk_bounds hok).2.2.2.2.2.2.1; rw [← Lib.size_eq] at this; omega
  have z2 : p'.size ≤ 300 := by have := (verOk_bounds hok').2.2.2.2.2.2.1; rw [← Lib.size_eq] at this; omega
  have z0 : (⟨#[]⟩ : ByteArray).size ≤ 300 := by decide
  clear hok hok'
  cases hem : p.toList.isEmpty
  case true =>
    go_enter Tryd.func3, Tryd.ntmps3
    go_wp2_with fail
    refine (keepV2 w _ _ _ _ _ _ _ _ _ _ _ HS0.out (checkP_as a b c p 0 HR.out _ (HE.out.below hW) hp)).mono ?_
    rintro e w1 ⟨rfl, hS1⟩
    have hb1 := hS1.2.2.2.2.2.2.2.2
    have HS1 := Lib.hid hS1
    obtain ⟨k00, k01, k02, k03, k10, k11, k12, k13, _⟩ := hS1
    go_wp2_with fail
    refine (keepV2 w _ _ _ _ _ _ _ _ _ _ _ HS1.out (checkP_as a' b' c' p' 0 HR'.out _ (HE.out.below hb1) hp')).mono ?_
    rintro e w2 ⟨rfl, hS2⟩
    have hb2 := hS2.2.2.2.2.2.2.2.2
    have HS2 := Lib.hid hS2
    clear k00 k01 k02 k03 k10 k11 k12 k13
    obtain ⟨k00, k01, k02, k03, k10, k11, k12, k13, _⟩ := hS2
    go_wp2_with fail
    refine (awake_any _ (HE.out.below hb2)).mono ?_
    rintro e w3 ⟨rfl, hb3⟩
    go_wp2_with fail
    go_ret
    exact ⟨rfl, below_then hb2 hb3⟩
  have hne : p.data.toList ≠ [] := by
    rw [Lib.toList_data] at hem
    intro e; rw [e] at hem; cases hem
  obtain ⟨c0, hc0⟩ : ∃ c0, V4.cmp ⟨a', b', c', ⟨#[]⟩⟩ ⟨a, b, c, ⟨#[]⟩⟩ = c0 := ⟨_, rfl⟩
  obtain ⟨d0, hd0⟩ : ∃ d0, V4.cmp ⟨a', b', c', p'⟩ ⟨a, b, c, p⟩ = d0 := ⟨_, rfl⟩
  have hcd : c0 = 0 ∨ (c0 ≠ 0 ∧ d0 = c0) := by
    by_cases h : c0 = 0
    · exact .inl h
    · right
      refine ⟨h, ?_⟩
      rw [← hc0] at h ⊢
      rw [← hd0]
      exact core_cmp _ _ _ _ _ _ _ _ h
  have C1 := Lib.hid (fun w hE => cmpP_val ⟨a, b, c, p⟩ ⟨a, b, c, ⟨#[]⟩⟩ (-1) (pre_below _ _ _ _ hne) z1 z0 w hE)
  have C2 := Lib.hid (fun w hE => cmpP_val ⟨a', b', c', ⟨#[]⟩⟩ ⟨a, b, c, ⟨#[]⟩⟩ c0 hc0 z0 z0 w hE)
  have C3 := Lib.hid (fun w hE => cmpP_val ⟨a', b', c', p'⟩ ⟨a, b, c, p⟩ d0 hd0 z2 z1 w hE)
  have HBest : Hid (bestOf V4.cmp V4.zero [⟨a, b, c, p⟩, ⟨a, b, c, ⟨#[]⟩⟩] = ⟨a, b, c, ⟨#[]⟩⟩) := by
    show _ = _
    show bestStep V4.cmp ⟨a, b, c, p⟩ ⟨a, b, c, ⟨#[]⟩⟩ = _
    unfold bestStep
    rw [show V4.cmp ⟨a, b, c, ⟨#[]⟩⟩ ⟨a, b, c, p⟩ = 1 from pre_above _ _ _ _ hne, if_pos (by decide)]
  have hqx := fun W => ver_eq a b c ⟨#[]⟩ a b c ⟨#[]⟩ true (by simp) W
  have HCD := Lib.hid hcd
  clear hc0 hd0 hcd hne
  go_enter Tryd.func3, Tryd.ntmps3
  go_wp2_with fail
  refine (keepV2 w _ _ _ _ _ _ _ _ _ _ _ HS0.out (checkP_as a b c p 0 HR.out _ (HE.out.below hW) hp)).mono ?_
  rintro e w1 ⟨rfl, hS1⟩
  have hb1 := hS1.2.2.2.2.2.2.2.2
  have HS1 := Lib.hid hS1
  obtain ⟨k00, k01, k02, k03, k10, k11, k12, k13, _⟩ := hS1
  go_wp2_with fail
  refine (keepV2 w _ _ _ _ _ _ _ _ _ _ _ HS1.out (checkP_as a' b' c' p' 0 HR'.out _ (HE.out.below hb1) hp')).mono ?_
  rintro e w2 ⟨rfl, hS2⟩
  have hb2 := hS2.2.2.2.2.2.2.2.2
  clear k00 k01 k02 k03 k10 k11 k12 k13
  obtain ⟨k00, k01, k02, k03, k10, k11, k12, k13, _⟩ := hS2
  go_wp2_with fail
  go_upto_region 3 with fail
  go_cut [5, 6] (fun x y wx => ∃ g h : Nat, (x = .pointer (some ⟨g, 0, none⟩) ∧ y = .pointer (some ⟨h, 0, none⟩)) ∧ (wx.cell? ⟨w.heap.size, 0, none⟩ = some (.int .i64 a) ∧ wx.cell? ⟨w.heap.size, 1, none⟩ = some (.int .i64 b) ∧ wx.cell? ⟨w.heap.size, 2, none⟩ = some (.int .i64 c) ∧ wx.cell? ⟨w.heap.size, 3, none⟩ = some (.string p) ∧ wx.cell? ⟨w.heap.size + 1, 0, none⟩ = some (.int .i64 a') ∧ wx.cell? ⟨w.heap.size + 1, 1, none⟩ = some (.int .i64 b') ∧ wx.cell? ⟨w.heap.size + 1, 2, none⟩ = some (.int .i64 c') ∧ wx.cell? ⟨w.heap.size + 1, 3, none⟩ = some (.string p') ∧ wx.cell? ⟨g, 0, none⟩ = some (.int .i64 a) ∧ wx.cell? ⟨g, 1, none⟩ = some (.int .i64 b) ∧ wx.cell? ⟨g, 2, none⟩ = some (.int .i64 c) ∧ wx.cell? ⟨g, 3, none⟩ = some (.string ⟨#[]⟩) ∧ wx.cell? ⟨h, 0, none⟩ = some (.int .i64 a') ∧ wx.cell? ⟨h, 1, none⟩ = some (.int .i64 b') ∧ wx.cell? ⟨h, 2, none⟩ = some (.int .i64 c') ∧ wx.cell? ⟨h, 3, none⟩ = some (.string ⟨#[]⟩) ∧ Below w.heap.size w wx))
  case first =>
    have hd0 := hb2.drew
    have hl1 := cell_lt k00
    have hl2 := cell_lt k10
    go_region_held3 (fun w' => w'.cell? ⟨w.heap.size, 0, none⟩ = some (.int .i64 a) ∧ w'.cell? ⟨w.heap.size, 1, none⟩ = some (.int .i64 b) ∧ w'.cell? ⟨w.heap.size, 2, none⟩ = some (.int .i64 c) ∧ w'.cell? ⟨w.heap.size, 3, none⟩ = some (.string p) ∧ w'.cell? ⟨w.heap.size + 1, 0, none⟩ = some (.int .i64 a') ∧ w'.cell? ⟨w.heap.size + 1, 1, none⟩ = some (.int .i64 b') ∧ w'.cell? ⟨w.heap.size + 1, 2, none⟩ = some (.int .i64 c') ∧ w'.cell? ⟨w.heap.size + 1, 3, none⟩ = some (.string p')) (first | assumption | (refine ⟨?_, ?_, ?_, ?_, ?_, ?_, ?_, ?_⟩ <;> exact cellB (w := w2) (B := w2.heap.size) (by repeat first | exact Below.refl _ _ | refine Below.setCell ?_ (by first | (simp; done) | (simp; omega) | omega) _ | refine Below.alloc ?_ (by first | (simp; done) | (simp; omega) | omega) _ | refine Below.drew ?_) (cell_lt (by assumption)) (by assumption)) | go_keep)
      (first
        | (go_at_call_of 6 (.agg #[.int .i64 a, .int .i64 b, .int .i64 c, .string p] : Value); refine (core_exact a b c p _).mono ?_; rintro e w4 ⟨rfl, rfl⟩)
        | (go_at_call_of 6 (.agg #[.int .i64 a', .int .i64 b', .int .i64 c', .string p'] : Value); refine (core_exact a' b' c' p' _).mono ?_; rintro e w5 ⟨rfl, rfl⟩))
    all_goals
      go_wp2_with fail
      go_meet
      case rel => (refine ⟨_, _, ⟨rfl, rfl⟩, ?_, ?_, ?_, ?_, ?_, ?_, ?_, ?_, ?_, ?_, ?_, ?_, ?_, ?_, ?_, ?_, ?_⟩; all_goals first | (exact cellB (w := w2) (B := w2.heap.size) (by repeat first | exact Below.refl _ _ | refine Below.setCell ?_ (by first | (simp; done) | (simp; omega) | omega) _ | refine Below.alloc ?_ (by first | (simp; done) | (simp; omega) | omega) _ | refine Below.drew ?_) (cell_lt (by assumption)) (by assumption); done) | (refine hb2.trans (Below.mono (B := w2.heap.size) (by repeat first | exact Below.refl _ _ | refine Below.setCell ?_ (by first | (simp; done) | (simp; omega) | omega) _ | refine Below.alloc ?_ (by first | (simp; done) | (simp; omega) | omega) _ | refine Below.drew ?_) hb2.size); done) | (go_simp; done) | (go_simp; rfl))
  case rest =>
    obtain ⟨g, h, ⟨rfl, rfl⟩, hS⟩ := hcut
    have HS := Lib.hid hS
    have hWx := hS.2.2.2.2.2.2.2.2.2.2.2.2.2.2.2.2
    obtain ⟨k00, k01, k02, k03, k10, k11, k12, k13, k20, k21, k22, k23, k30, k31, k32, k33, _⟩ := hS
    go_wp2_with fail
    have hd0 := hWx.drew
    go_region_held3 (fun w' => w'.cell? ⟨w.heap.size, 0, none⟩ = some (.int .i64 a) ∧ w'.cell? ⟨w.heap.size, 1, none⟩ = some (.int .i64 b) ∧ w'.cell? ⟨w.heap.size, 2, none⟩ = some (.int .i64 c) ∧ w'.cell? ⟨w.heap.size, 3, none⟩ = some (.string p) ∧ w'.cell? ⟨w.heap.size + 1, 0, none⟩ = some (.int .i64 a') ∧ w'.cell? ⟨w.heap.size + 1, 1, none⟩ = some (.int .i64 b') ∧ w'.cell? ⟨w.heap.size + 1, 2, none⟩ = some (.int .i64 c') ∧ w'.cell? ⟨w.heap.size + 1, 3, none⟩ = some (.string p') ∧ w'.cell? ⟨g, 0, none⟩ = some (.int .i64 a) ∧ w'.cell? ⟨g, 1, none⟩ = some (.int .i64 b) ∧ w'.cell? ⟨g, 2, none⟩ = some (.int .i64 c) ∧ w'.cell? ⟨g, 3, none⟩ = some (.string ⟨#[]⟩) ∧ w'.cell? ⟨h, 0, none⟩ = some (.int .i64 a') ∧ w'.cell? ⟨h, 1, none⟩ = some (.int .i64 b') ∧ w'.cell? ⟨h, 2, none⟩ = some (.int .i64 c') ∧ w'.cell? ⟨h, 3, none⟩ = some (.string ⟨#[]⟩) ∧ Below w.heap.size w w') (first | assumption | go_keep)
      (first
        | (go_at_call 7; refine (keepV4 w _ _ _ _ _ _ _ _ _ _ _ _ _ _ _ _ _ _ _ _ _ (by assumption) (C1.out _ (HE.out.below (And.right (And.right (And.right (And.right (And.right (And.right (And.right (And.right (And.right (And.right (And.right (And.right (And.right (And.right (And.right (And.right (by assumption)))))))))))))))))))).mono ?_; rintro e w7 ⟨rfl, hk7⟩)
        | (go_at_call 6; refine (keepV4 w _ _ _ _ _ _ _ _ _ _ _ _ _ _ _ _ _ _ _ _ _ (by assumption) (core_as ⟨a, b, c, ⟨#[]⟩⟩ _)).mono ?_; rintro e w8 ⟨rfl, hk8⟩))
    clear k00 k01 k02 k03 k10 k11 k12 k13 k20 k21 k22 k23 k30 k31 k32 k33 hWx hd0
    have HS := Lib.hid hk8
    have hWx := hk8.2.2.2.2.2.2.2.2.2.2.2.2.2.2.2.2
    obtain ⟨k00, k01, k02, k03, k10, k11, k12, k13, k20, k21, k22, k23, k30, k31, k32, k33, _⟩ := hk8
    go_wp2_with fail
    refine (keepV4 w _ _ _ _ _ _ _ _ _ _ _ _ _ _ _ _ _ _ _ _ _ HS.out (C2.out _ (HE.out.below hWx))).mono ?_
    rintro e w9 ⟨rfl, hk9⟩
    clear k00 k01 k02 k03 k10 k11 k12 k13 k20 k21 k22 k23 k30 k31 k32 k33 hWx
    have HS := Lib.hid hk9
    have hWx := hk9.2.2.2.2.2.2.2.2.2.2.2.2.2.2.2.2
    obtain ⟨k00, k01, k02, k03, k10, k11, k12, k13, k20, k21, k22, k23, k30, k31, k32, k33, _⟩ := hk9
    rcases HCD.out with h0 | ⟨h0, h1⟩
    · have q : (c0 != 0) = false := by simpa using h0
      clear h0
      go_wp2_with fail
      have hWy := hWx.alloc hWx.size (.cells #[.int .i64 a, .int .i64 b, .int .i64 c, .string p, .int .i64 a, .int .i64 b, .int .i64 c, .string ⟨#[]⟩] 23)
      refine (highest_as _ [⟨a, b, c, p⟩, ⟨a, b, c, ⟨#[]⟩⟩] ⟨a, b, c, ⟨#[]⟩⟩ true HBest.out rfl _ (vers_two _ ⟨a, b, c, p⟩ ⟨a, b, c, ⟨#[]⟩⟩ _ 2 _ _ rfl rfl) ⟨_, _, rfl⟩ (HE.out.below hWy) (by intro x hx; simp at hx; rcases hx with rfl | rfl; exact z1; exact z0) (by simp)).mono ?_
      rintro e w11 ⟨rfl, hb11⟩
      have hb12 := box_of hb11
      have hb13 := below_first hb12
      have m0 := (hb13.cell (p := ⟨g, 0, none⟩) (cell_lt k20)).trans k20
      have m1 := (hb13.cell (p := ⟨g, 1, none⟩) (cell_lt k21)).trans k21
      have m2 := (hb13.cell (p := ⟨g, 2, none⟩) (cell_lt k22)).trans k22
      have m3 := (hb13.cell (p := ⟨g, 3, none⟩) (cell_lt k23)).trans k23
      have hWz := below_then hWx hb13
      have hgl := cell_lt m0
      clear k00 k01 k02 k03 k10 k11 k12 k13 k20 k21 k22 k23 k30 k31 k32 k33 hb11 hb12 hb13
      go_wp2_with fail
      refine (awake_any _ (HE.out.below (hWz.alloc hWz.size _))).mono ?_
      rintro e w12 ⟨rfl, hb14⟩
      go_wp2_with fail
      go_ret
      exact ⟨rfl, below_then (hWz.alloc hWz.size _) hb14⟩
    · have q : (c0 != 0) = true := by simpa using h0
      have q2 : (d0 != c0) = false := by simpa using h1
      have q3 : decide (c0 = 0) = false := decide_eq_false h0
      have q4 : decide (d0 = c0) = true := decide_eq_true h1
      have q5 : (c0 == 0) = false := by simpa using h0
      have HH := Lib.hid h1
      clear h0 h1
      go_wp2_with fail
      refine (keepV4 w _ _ _ _ _ _ _ _ _ _ _ _ _ _ _ _ _ _ _ _ _ HS.out (C3.out _ (HE.out.below hWx))).mono ?_
      rintro e w10 ⟨rfl, hk10⟩
      clear k00 k01 k02 k03 k10 k11 k12 k13 k20 k21 k22 k23 k30 k31 k32 k33 hWx
      have HS := Lib.hid hk10
      have hWx := hk10.2.2.2.2.2.2.2.2.2.2.2.2.2.2.2.2
      obtain ⟨k00, k01, k02, k03, k10, k11, k12, k13, k20, k21, k22, k23, k30, k31, k32, k33, _⟩ := hk10
      go_wp2_with fail
      have hWy := hWx.alloc hWx.size (.cells #[.int .i64 a, .int .i64 b, .int .i64 c, .string p, .int .i64 a, .int .i64 b, .int .i64 c, .string ⟨#[]⟩] 23)
      refine (highest_as _ [⟨a, b, c, p⟩, ⟨a, b, c, ⟨#[]⟩⟩] ⟨a, b, c, ⟨#[]⟩⟩ true HBest.out rfl _ (vers_two _ ⟨a, b, c, p⟩ ⟨a, b, c, ⟨#[]⟩⟩ _ 2 _ _ rfl rfl) ⟨_, _, rfl⟩ (HE.out.below hWy) (by intro x hx; simp at hx; rcases hx with rfl | rfl; exact z1; exact z0) (by simp)).mono ?_
      rintro e w11 ⟨rfl, hb11⟩
      have hb12 := box_of hb11
      have hb13 := below_first hb12
      have m0 := (hb13.cell (p := ⟨g, 0, none⟩) (cell_lt k20)).trans k20
      have m1 := (hb13.cell (p := ⟨g, 1, none⟩) (cell_lt k21)).trans k21
      have m2 := (hb13.cell (p := ⟨g, 2, none⟩) (cell_lt k22)).trans k22
      have m3 := (hb13.cell (p := ⟨g, 3, none⟩) (cell_lt k23)).trans k23
      have hWz := below_then hWx hb13
      have hgl := cell_lt m0
      clear k00 k01 k02 k03 k10 k11 k12 k13 k20 k21 k22 k23 k30 k31 k32 k33 hb11 hb12 hb13
      go_wp2_with fail
      refine (awake_any _ (HE.out.below (hWz.alloc hWz.size _))).mono ?_
      rintro e w12 ⟨rfl, hb14⟩
      go_wp2_with fail
      go_ret
      exact ⟨rfl, below_then (hWz.alloc hWz.size _) hb14⟩
end Go.Proofs.YtppcjlokimappaaDoor
