/- Choices: what a law's walk looks at; what follows from how small a case is. -/
import Derived.Test.YtbgimpeklblcjaaGreatDoorChCounts
namespace Go
open Go.RowKit
theorem SmallP.pack {nm : ByteArray} {os : List DOff} {a : Option Addr} {k : Nat} {lock : List Pik} {needs : List (Want × Value)} (h : SmallP [⟨nm, os, a, k⟩] lock needs) : os.length ≤ 1000000 ∧ ∀ o ∈ os, OffP o := by
 have := h.os _ (List.mem_singleton.2 rfl)
 exact ⟨Nat.le_trans this.1 (by decide), this.2⟩
theorem OffP.pre {o : DOff} (h : OffP o) : o.v.p.size ≤ 300 := by have := h.1; omega
/-- what the region looks at -/
def PkAt (b : Nat) (nm : ByteArray) (ov : Value) (w0 W : World) : Prop := W.cell? ⟨b, 0, none⟩ = some (.string nm) ∧ W.cell? ⟨b, 1, none⟩ = some ov ∧ Below w0.heap.size w0 W
theorem PkAt.on {b : Nat} {nm : ByteArray} {ov : Value} {w0 W W' : World} (h : PkAt b nm ov w0 W) (hb : Below W.heap.size W W') : PkAt b nm ov w0 W' := ⟨cell_on h.1 hb, cell_on h.2.1 hb, below_then h.2.2 hb⟩
theorem NeedsP.bounds2 {ns : List (Want × Value)} (h : NeedsP ns) : ∀ x ∈ ns, x.1.bs.length ≤ 1000 ∧ ∀ b ∈ x.1.bs, b.v.p.size ≤ 300 := fun x hx => by
 obtain ⟨h1, _, h3⟩ := h.2 x hx
 exact ⟨by omega, fun b hb => by have := h3 b hb; omega⟩
/-- what the region looks at -/
def CaS (b : Nat) (pk lk nv : Value) (w0 W : World) : Prop := W.cell? ⟨b, 0, none⟩ = some pk ∧ W.cell? ⟨b, 1, none⟩ = some lk ∧ W.cell? ⟨b, 2, none⟩ = some nv ∧ Below w0.heap.size w0 W
theorem CaS.on {b : Nat} {pk lk nv : Value} {w0 W W' : World} (h : CaS b pk lk nv w0 W) (hb : Below W.heap.size W W') : CaS b pk lk nv w0 W' := ⟨cell_on h.1 hb, cell_on h.2.1 hb, cell_on h.2.2.1 hb, below_then h.2.2.2 hb⟩
end Go
namespace Go.Proofs.YtbgimpeklblcjaaGreatDoor
open Go.RowKit Go.Maps
theorem SmallP.ctx {ps : List DPack} {lock : List Pik} {needs : List (Want × Value)} (h : SmallP ps lock needs) {pk lk nv : Value} {w : World} (hp : Packs w pk ps) (hl : Piks w lk lock) (hn : Wants w nv needs) (hE : Env w) : TabCtx lock needs ps pk lk nv w where
 packs := hp
 piks := hl
 wants := hn
 env := hE
 pkos := fun p hp => ⟨Nat.le_trans (h.os p hp).1 (by decide), fun o ho => by have := ((h.os p hp).2 o ho).1; omega⟩
 ons := fun p hp o ho => by
  have := ((h.os p hp).2 o ho).2
  exact ⟨Nat.le_trans this.1 (by decide), fun x hx => by have := (this.2 x hx).1; omega⟩
 nds := h.nd.bounds2
 names := h.names.2
 few := h.names.1
end Go.Proofs.YtbgimpeklblcjaaGreatDoor
