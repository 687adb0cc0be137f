/- Append to a row of the call's own, as one step of a region that draws its order; what a call leaves standing; sums of texts. -/
import Derived.Test.YtboajinaiceekaaGreatDoorSemRefA
import Derived.Deep.RegionLaw
import Derived.Maps.AppendAt
namespace Go
open Go.RowKit
theorem step_append_ats {P : Program} {ops : Array Oper} {o : Oper} {a : Act} {w : World} {K : Act → World → Prop} {Q : Exit → Act → World → Prop} {E : Prop}
    (hg : o.guard = none) (s x : Operand) (t : TypeId) (hop : o.op = Op.call { callee := Callee.builtin Builtin.append, args := #[s, x], argTypes := #[t, t] })
    (base : Nat) (e : TypeId) (i : TypeInfo) (z : Value) (size bytes : Nat) (ht : P.underlying t = some (.slice e)) (hi : P.info? e = some i) (hz : i.zero = some z)
    (hsize : i.size = size) (hby : i.bytes = bytes) (hzs : z.cells.size = size) (hsz : 0 < size)
    (v : Value) (n : Nat) (xs : List Value) (hs : a.eval s = v) (hown : w.ownsRow base e size v n xs)
    (ad : Addr) (m c : Nat) (news : List Value) (hx : a.eval x = .slice (some ad) m c) (hl : news.length = m * size) (hnews : ∀ j u, news[j]? = some u → w.cell? (ad.add j) = some u) (h1 : ∀ u ∈ news, u.oneCell' = true)
    (h63 : n + m ≤ maxLen) (hbytes : (n + m) * bytes ≤ 140737488355328) (hbase : base ≤ w.heap.size)
    (hK : ∀ v' w', w'.ownsRow base e size v' (n + m) (xs ++ news) → w.grownBy w' v.ownBlock → (v'.ownBlock = v.ownBlock ∨ v'.ownBlock = some w.heap.size) → K (a.put o.dst v') w') :
    if Region.wanted o (yielded ops a.tmps) = true then Oper.wp P o a w K Q else E := by
  have hw : Region.wanted o (yielded ops a.tmps) = true := by simp [Region.wanted, hg]
  rw [if_pos hw]
  obtain ⟨v', w', hr, h2, h3, _, h5⟩ := run_append_own_at (P := P) (w := w) base t o.type e i z size bytes ht hi hz hsize hby hzs hsz v n xs hown ad m c news hl hnews h1 h63 hbytes hbase
  unfold Oper.wp execOp
  simp only [hop, resolve, invoke, builtin, Sem.run_bind, Sem.run_pure, Result.andThen_ok, List.map_toArray, List.map_cons, List.map_nil, hs, hx, hr]
  exact hK v' w' h2 h3 h5
theorem keepS {P : Program} {f : FuncId} {args : Array Value} {v : Value} {S : World → Prop} (hS : ∀ W W', S W → Below W.heap.size W W' → S W') {w : World} (h : S w) (hc : Calls P f args w fun e w' => e = .returned v ∧ Below w.heap.size w w') :
    Calls P f args w fun e w' => e = .returned v ∧ S w' := hc.mono fun _ _ ⟨he, hb⟩ => ⟨he, hS _ _ h hb⟩
theorem keepL {P : Program} {f : FuncId} {args : Array Value} {R : Ending → World → Prop} {S : World → Prop} (hS : ∀ W W', S W → Below W.heap.size W W' → S W') {w : World} (h : S w) (hR : ∀ e w', R e w' → Below w.heap.size w w') (hc : Calls P f args w R) :
    Calls P f args w fun e w' => R e w' ∧ S w' := hc.mono fun _ _ hr => ⟨hr, hS _ _ h (hR _ _ hr)⟩
theorem cell_on {w w' : World} {b o : Nat} {v : Value} (h : w.cell? ⟨b, o, none⟩ = some v) (hb : Below w.heap.size w w') : w'.cell? ⟨b, o, none⟩ = some v := (hb.cell (p := ⟨b, o, none⟩) (cell_lt h)).trans h
theorem add_as {P : Program} {a b c : ByteArray} (h : a ++ b = c) (hs : c.size ≤ 10000000) (W : World) : (Op.stringOp .add a b).run P W = .ok (.string c) W := by
  subst h
  exact run_string_add_sum W _ _ (by rw [ByteArray.size_append] at hs; omega)
end Go
