/- The program's commands: Parse: a walk. -/
import Derived.Test.YtjjpngdbbjeaiaaGreatDoorCmd3
import Derived.Test.YtjjpngdbbjeaiaaGreatDoorCmdLib
import Derived.Lib.SliceRun
import Derived.Lib.Walk
import Derived.Deep.RegionHeld3
namespace Go
open Go.RowKit
theorem Strs.tail1 {w : World} {b off cap cap' N : Nat} {W : List UInt8} {T : List (List UInt8)} (h : Strs w (.slice (some ⟨b, off, none⟩) N cap) (W :: T)) (hN : (W :: T).length = N) (hT : 1 < N) : Strs w (.slice (some ⟨b, off + 1, none⟩) (N - 1) cap') T := by
  have hT1 : N - 1 = T.length := by rw [← hN]; simp
  rw [hT1]
  have hT : 0 < T.length := by omega
  obtain ⟨b', o', c', e, hb, hc⟩ := h.full (by simp)
  injection e with e1 e2 e3
  injection e1 with e1
  injection e1 with e1 e4
  subst e1 e4
  have hm := h.cases.1
  simp at hm
  refine ⟨by rw [strs_length]; omega, by omega, .inr ⟨b, off + 1, _, rfl, hT, hb, fun j hj => ?_⟩⟩
  have := hc (j + 1) (by simp; omega)
  rw [show off + 1 + j = off + (j + 1) by omega, this, strs_get T j (by omega)]
  rfl
/-- a store to elder memory leaves fresh rows as they were -/
theorem Row.set_elder {w : World} {size n B : Nat} {v : Value} {xs : List Value} (h : Row w size v n xs) (hf : FreshV B v) (p : Addr) (hp : p.block < B) (u : Value) : Row (w.setCell p u) size v n xs := by
  obtain ⟨h1, h2, h3 | ⟨b, off, cap, h3, h4, h5, h6⟩⟩ := h
  · exact ⟨h1, h2, .inl h3⟩
  · refine ⟨h1, h2, .inr ⟨b, off, cap, h3, h4, by simpa using h5, fun j hj => ?_⟩⟩
    have hb := hf _ _ _ h3
    rw [World.cell?_setCell_other _ _ _ _ (by rintro rfl; exact Nat.lt_irrefl _ (Nat.lt_of_lt_of_le hp hb))]
    exact h6 j hj
theorem Strs.set_elder {w : World} {B : Nat} {v : Value} {ls : List (List UInt8)} (h : Strs w v ls) (hf : FreshV B v) (p : Addr) (hp : p.block < B) (u : Value) : Strs (w.setCell p u) v ls := Row.set_elder h hf p hp u
theorem keepC1 {P : Program} {f : FuncId} {args : Array Value} {v : Value} (w0 w : World) (p : Addr) (hp : p.block < w0.heap.size) (x : Value) (h : w.cell? p = some x ∧ Below w0.heap.size w0 w)
    (hc : Calls P f args w fun e w' => e = .returned v ∧ Below w.heap.size w w') : Calls P f args w fun e w' => e = .returned v ∧ (w'.cell? p = some x ∧ Below w0.heap.size w0 w') :=
  hc.mono fun _ _ ⟨he, hb⟩ => ⟨he, (hb.cell (p := p) (Nat.lt_of_lt_of_le hp h.2.size)).trans h.1, below_then h.2 hb⟩
end Go
namespace Go.Proofs.YtjjpngdbbjeaiaaGreatDoor
open Go.RowKit
theorem info_str : (Tryz.prog.info? 9).map (fun i => (i.zero, i.size, i.bytes)) = some (some (.string ⟨#[]⟩), 1, 16) := by kernel_rfl
theorem splitW_any (c : UInt8) (s : ByteArray) (w : World) (hE : Env w) (hs : s.size < 4294967281) :
    Calls Tryz.prog 49 #[.string s, .string ⟨#[c]⟩] w fun e w' => e = .returned (.slice (some ⟨w.heap.size, 0, none⟩) (sepAt c s.data.toList).length (sepAt c s.data.toList).length) ∧
      Strs w' (.slice (some ⟨w.heap.size, 0, none⟩) (sepAt c s.data.toList).length (sepAt c s.data.toList).length) (sepAt c s.data.toList) ∧ Below w.heap.size w w' := by
  obtain ⟨m, hm⟩ := hE.1
  refine (Tryz.strings_Split s ⟨#[c]⟩ m w hs hm (Nat.le_refl 1)).mono fun e w' ⟨he, hw⟩ => ⟨?_, ?_, ?_⟩
  · rw [he, countB_sep]
  · rw [hw, split_sep]
    have e1 : ((List.map S (sepAt c s.data.toList)).map Value.string) = strs (sepAt c s.data.toList) := by
      unfold strs; rw [List.map_map]; rfl
    rw [e1]
    have hn : 0 < (sepAt c s.data.toList).length := List.length_pos_iff.2 (sepAt_ne _ _)
    have hl : (sepAt c s.data.toList).length ≤ s.size + 1 := by
      rw [sepAt_count, Lib.size_eq]; have := List.count_le_length (a := c) (l := s.data.toList); omega
    refine ⟨by rw [strs_length]; omega, by unfold maxLen; omega, .inr ⟨w.heap.size, 0, _, rfl, hn, by simp, fun j hj => ?_⟩⟩
    simp only [World.cell?, Below_heap_new, Nat.zero_add, Option.isSome_none, Bool.false_eq_true, if_false]
    simp
  · rw [hw]; exact (Below.refl _ _).alloc (Nat.le_refl _) _
set_option maxRecDepth 100000 in
set_option maxHeartbeats 1000000 in
theorem clone_any (b off cap : Nat) (ls : List (List UInt8)) (w : World) (hv : Strs w (.slice (some ⟨b, off, none⟩) ls.length cap) ls) (h0 : 0 < ls.length) (hN : ls.length ≤ 100000) :
    Calls Tryz.prog 51 #[.slice (some ⟨b, off, none⟩) ls.length cap] w fun e w' => ∃ v, e = .returned v ∧ Strs w' v ls ∧ (∃ a cap, v = .slice a ls.length cap) ∧ Below w.heap.size w w' ∧ FreshV w.heap.size v := by
  obtain ⟨i0, hi, hz0, hz1, hz2⟩ := info_parts info_str
  have q : ∀ (w : World) (a : Option Addr) (n c n' c' : Nat), (binOp .eql 50 (.slice a n c) (.slice none n' c')).run Tryz.prog w = .ok (.bool a.isNone) w := fun w a n c n' c' => Lib.run_eql_slice_nil w _ _ a n c n' c' Tryz.underlying50
  obtain ⟨b', o', c', e, hb, hc⟩ := hv.full h0
  injection e with e1 e2 e3
  injection e1 with e1
  injection e1 with e1 e4
  subst e1 e4
  have HC := Lib.hid hc
  clear hc hv e2 e3
  go_enter Tryz.func51, Tryz.ntmps51
  go_wp2_with (at_builtin; go_must (refine wpList_append_own _ rfl _ _ 50 rfl w.heap.size 9 i0 (.string ⟨#[]⟩) 1 16 Tryz.underlying50 hi hz0 hz1 hz2 rfl (by decide) _ _ _ rfl (World.ownsRow_made w #[] 0 (Nat.le_refl _) (Nat.zero_le _) rfl) ⟨b, off, none⟩ ls.length cap (strs ls) rfl ?c0 ?c1 ?c2 ?c3 ?c4 ?c5 ?_))
  case c0 => rw [strs_length]
  case c1 =>
    intro j u hj
    have hjl : j < ls.length := by have := (List.getElem?_eq_some_iff.1 hj).1; rw [strs_length] at this; exact this
    rw [strs_get ls j hjl] at hj
    injection hj with hj
    subst hj
    have h := HC.out j hjl
    exact h
  case c2 =>
    intro u hu
    unfold strs at hu
    obtain ⟨x, _, rfl⟩ := List.mem_map.1 hu; rfl
  case c3 => unfold maxLen; omega
  case c4 => omega
  intro v' w1 hown hg _
  have hb2 := (Below.refl w.heap.size w).alloc (Nat.le_refl _) (.cells #[] 9)
  have hb3 := hb2.grown hg (by simp) (by intro k hk; simp [Value.ownBlock] at hk; omega)
  have hown2 : w1.ownsRow w.heap.size 9 1 v' ls.length (strs ls) := by simpa using hown
  obtain ⟨g2, cap2, hv2⟩ := Joins.ownsRow_form hown2 h0
  subst hv2
  have HO := Lib.hid hown2
  clear hg hown hown2
  go_wp2
  go_ret
  exact ⟨_, rfl, Strs.of_owns HO.out, ⟨_, _, rfl⟩, hb3, FreshV.of_owns HO.out⟩
theorem clone_n (b off cap n : Nat) (ls : List (List UInt8)) (w : World) (hn : ls.length = n) (hv : Strs w (.slice (some ⟨b, off, none⟩) n cap) ls) (h0 : 0 < n) (hN : n ≤ 100000) :
    Calls Tryz.prog 51 #[.slice (some ⟨b, off, none⟩) n cap] w fun e w' => ∃ v, e = .returned v ∧ Strs w' v ls ∧ (∃ a cap, v = .slice a ls.length cap) ∧ Below w.heap.size w w' ∧ FreshV w.heap.size v := by
  subst hn
  exact clone_any b off cap ls w hv h0 hN
theorem known_as (X : ByteArray) (T : List (List UInt8)) (r bd : Bool) (hr : rightB X.data.toList T = r) (hbd : (rightB X.data.toList T && hasBody X.data.toList) = bd) (v : Value) (w : World) (hv : Strs w v T) (hlen : ∃ a cap, v = .slice a T.length cap) (hE : Env w) (hs : ∀ l ∈ T, l.length < 4294967281) :
    Calls Tryz.prog 50 #[.string X, v] w fun e w' => e = .returned (.tuple #[.bool bd, .bool r]) ∧ Below w.heap.size w w' := by
  subst hr hbd
  exact known_any X v T w hE hv hlen hs
end Go.Proofs.YtjjpngdbbjeaiaaGreatDoor
