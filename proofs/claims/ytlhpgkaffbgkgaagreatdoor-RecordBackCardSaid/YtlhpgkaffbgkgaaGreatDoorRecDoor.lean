/- A release, two versions that came in; what the rows of layer 22 give. -/
import Derived.Test.YtlhpgkaffbgkgaaGreatDoorSemDoor
import Derived.Test.YtlhpgkaffbgkgaaGreatDoorOpen
import Derived.Test.YtlhpgkaffbgkgaaGreatDoorRecAwake
import Derived.OpenShut
namespace Go.Proofs.YtlhpgkaffbgkgaaGreatDoor
open Go.ChangeShapes Go.WideShapes Go.ChangeAt Go.RowKit Go.Deep
theorem first_is : Rows.laid_unicode_utf8_first = Lib.firstData := by kernel_rfl
theorem accept_is : (Rows.laid_unicode_utf8_acceptRanges : DataW Unit) = Lib.acceptData := by kernel_rfl
theorem tabs_of {W : World} (h : laidMet Tryz.prog listed W) : Lib.Utf8Tabs 0 1 W := by
  have h1 := Lib.laidMet.reads h (show ("unicode/utf8.first", Rows.laid_unicode_utf8_first) ∈ listed from .tail _ (.tail _ (.tail _ (.tail _ (.tail _ (.tail _ (.head _)))))))
  have h2 := Lib.laidMet.reads h (show ("unicode/utf8.acceptRanges", Rows.laid_unicode_utf8_acceptRanges) ∈ listed from .tail _ (.tail _ (.tail _ (.head _))))
  rw [first_is] at h1
  rw [accept_is] at h2
  exact utf8Tabs_of_reads (ρ := Tryz.lays260_ren) Tryz.lays260 ⟨by kernel_rfl, by kernel_rfl, by kernel_rfl, by kernel_rfl, by kernel_rfl, by kernel_rfl, by kernel_rfl⟩ h1 h2
theorem renv_of {W : World} (h : laidMet Tryz.prog listed W) (hs : W.ShapedOpen Tryz.prog) : REnv W := ⟨env_of h hs, tabs_of h⟩
section
variable {H : Type} {enc : TypeId × Value → H} {W : World} {r : Reach} {b0 base : Nat} {sp : Nat → Bool} {held : Bool}
set_option maxRecDepth 100000 in
theorem el_ver (n : Nat) (cs : List Value) (y : DataW H × List MemPlace) (h : DataW.trod enc Tryz.prog W base sp held n 23 cs = some y) (hl : cs.length = 4) : ∃ v : V4, v.cells = cs ∧ v.p.size ≤ 9223372036854775807 := by
  obtain ⟨_, _, t0⟩ := field_at Tryz.underlying23 h 0 0 1 _ rfl (by kernel_rfl) (by kernel_rfl)
  obtain ⟨_, _, t1⟩ := field_at Tryz.underlying23 h 1 1 1 _ rfl (by kernel_rfl) (by kernel_rfl)
  obtain ⟨_, _, t2⟩ := field_at Tryz.underlying23 h 2 2 1 _ rfl (by kernel_rfl) (by kernel_rfl)
  obtain ⟨_, _, t3⟩ := field_at Tryz.underlying23 h 3 3 1 _ rfl (by kernel_rfl) (by kernel_rfl)
  obtain ⟨a, e0, _, _⟩ := DataW.trod_int Tryz.underlying3 t0
  obtain ⟨b, e1, _, _⟩ := DataW.trod_int Tryz.underlying3 t1
  obtain ⟨c, e2, _, _⟩ := DataW.trod_int Tryz.underlying3 t2
  obtain ⟨s, e3, _, hs⟩ := DataW.trod_string Tryz.underlying9 t3
  match cs, hl with
  | [c0, c1, c2, c3], _ =>
    simp at e0 e1 e2 e3
    subst e0 e1 e2 e3
    exact ⟨⟨a, b, c, s⟩, rfl, maxLen_le hs⟩
set_option maxRecDepth 100000 in
theorem open_rel {v : Value} {d : DataW H} {p : List MemPlace} (hv : Value.okWide Tryz.prog W r b0 25 v) (h : DataW.Trod enc Tryz.prog W base sp held 25 v d p) :
    ∃ (n : ByteArray) (a b c : Int) (q s f : ByteArray) (y : Bool) (t : ByteArray), v = .agg #[.string n, .int .i64 a, .int .i64 b, .int .i64 c, .string q, .string s, .string f, .bool y, .string t] ∧ q.size ≤ 9223372036854775807 := by
  obtain ⟨cs, rfl, hsz⟩ := okWide_struct Tryz.underlying25 hv
  rw [show Tryz.prog.cellsOf 25 = 9 by kernel_rfl] at hsz
  obtain ⟨fuel, hf⟩ := h
  obtain ⟨_, _, t0⟩ := field_at Tryz.underlying25 hf 0 0 1 _ rfl (by kernel_rfl) (by kernel_rfl)
  obtain ⟨_, _, t1⟩ := field_at Tryz.underlying25 hf 1 1 4 _ rfl (by kernel_rfl) (by kernel_rfl)
  obtain ⟨_, _, t2⟩ := field_at Tryz.underlying25 hf 2 5 1 _ rfl (by kernel_rfl) (by kernel_rfl)
  obtain ⟨_, _, t3⟩ := field_at Tryz.underlying25 hf 3 6 1 _ rfl (by kernel_rfl) (by kernel_rfl)
  obtain ⟨_, _, t4⟩ := field_at Tryz.underlying25 hf 4 7 1 _ rfl (by kernel_rfl) (by kernel_rfl)
  obtain ⟨_, _, t5⟩ := field_at Tryz.underlying25 hf 5 8 1 _ rfl (by kernel_rfl) (by kernel_rfl)
  obtain ⟨cs⟩ := cs
  match cs, hsz with
  | [c0, c1, c2, c3, c4, c5, c6, c7, c8], _ =>
    obtain ⟨n, e0, _, _⟩ := DataW.trod_string Tryz.underlying9 t0
    obtain ⟨x, e1, hx⟩ := el_ver _ _ _ t1 rfl
    obtain ⟨s, e2, _, _⟩ := DataW.trod_string Tryz.underlying9 t2
    obtain ⟨f, e3, _, _⟩ := DataW.trod_string Tryz.underlying9 t3
    obtain ⟨y, e4, _⟩ := DataW.trod_bool Tryz.underlying4 t4
    obtain ⟨t, e5, _, _⟩ := DataW.trod_string Tryz.underlying9 t5
    simp [Value.cells, V4.cells] at e0 e1 e2 e3 e4 e5
    obtain ⟨g1, g2, g3, g4⟩ := e1
    subst e0 e2 e3 e4 e5 g1 g2 g3 g4
    exact ⟨n, x.a, x.b, x.c, x.p, s, f, y, t, rfl, hx⟩
set_option maxRecDepth 100000 in
theorem okWide_array {n : Nat} {e t : TypeId} {v : Value} (ht : Tryz.prog.underlying t = some (.array n e)) (h : Value.okWide Tryz.prog W r b0 t v) : ∃ cs, v = .agg cs ∧ cs.size = Tryz.prog.cellsOf t := by
  simp only [Value.okWide, ht] at h
  obtain ⟨cs, h1, h2, _⟩ := h
  exact ⟨cs, h1, h2⟩
set_option maxRecDepth 100000 in
theorem open_vv {v : Value} {d : DataW H} {p : List MemPlace} (hv : Value.okWide Tryz.prog W r b0 48 v) (h : DataW.Trod enc Tryz.prog W base sp held 48 v d p) :
    ∃ (a b c : Int) (q : ByteArray) (a' b' c' : Int) (q' : ByteArray), v = .agg #[.int .i64 a, .int .i64 b, .int .i64 c, .string q, .int .i64 a', .int .i64 b', .int .i64 c', .string q'] ∧ q.size ≤ 9223372036854775807 ∧ q'.size ≤ 9223372036854775807 := by
  obtain ⟨cs, rfl, hsz⟩ := okWide_array Tryz.underlying48 hv
  rw [show Tryz.prog.cellsOf 48 = 8 by kernel_rfl] at hsz
  obtain ⟨fuel, hf⟩ := h
  obtain ⟨xs, m, rfl, _, _, hx, hi⟩ := DataW.trod_array Tryz.underlying48 hf
  rw [show Tryz.prog.cellsOf 23 = 4 by kernel_rfl] at hi
  have h0 := hi 0 (by omega)
  have h1 := hi 1 (by omega)
  rw [List.getElem?_eq_getElem (by omega)] at h0 h1
  obtain ⟨cs⟩ := cs
  match cs, hsz with
  | [c0, c1, c2, c3, c4, c5, c6, c7], _ =>
    obtain ⟨x, e0, hx0⟩ := el_ver _ _ _ h0 rfl
    obtain ⟨y, e1, hx1⟩ := el_ver _ _ _ h1 rfl
    simp [Value.cells, V4.cells] at e0 e1
    obtain ⟨g1, g2, g3, g4⟩ := e0
    obtain ⟨k1, k2, k3, k4⟩ := e1
    subst g1 g2 g3 g4 k1 k2 k3 k4
    exact ⟨x.a, x.b, x.c, x.p, y.a, y.b, y.c, y.p, rfl, hx0, hx1⟩
end
end Go.Proofs.YtlhpgkaffbgkgaaGreatDoor
