/- The reference's Same: a walk. -/
import Derived.Test.YthhpinohbjmhcaaDoorProg
import Derived.Test.YthhpinohbjmhcaaDoorRows0
import Derived.Deep.QuietTactic
import Derived.BigQuiet
import Derived.Deep.LoopGhost
import Derived.Lib.Hide
namespace Go.Proofs.YthhpinohbjmhcaaDoor
open Go.RowKit
def sameB (xs ys : List Int) : Bool := decide (xs = ys)
theorem sameB_self (xs : List Int) : sameB xs xs = true := by simp [sameB]
set_option maxRecDepth 100000 in
set_option maxHeartbeats 1000000 in
theorem same_any (v u : Value) (xs ys : List Int) (w : World) (hx : Ints w v xs) (hy : Ints w u ys) :
    Calls Tryd.prog 12 #[v, u] w fun e w' => e = .returned (.bool (sameB xs ys)) ∧ Below w.heap.size w w' := by
  obtain ⟨mx, hx⟩ := hx.cases
  obtain ⟨my, hy⟩ := hy.cases
  unfold maxLen at mx my
  by_cases hlen : xs.length = ys.length
  case neg =>
    have e1 : sameB xs ys = false := by
      unfold sameB; simp; intro h; exact hlen (by rw [h])
    rw [e1]
    have hq : ((xs.length : Int) != (ys.length : Int)) = true := by simp; omega
    clear e1 hlen
    rcases hx with ⟨a, cap, rfl, rfl⟩ | ⟨b, off, cap, rfl, hn, hb, hc⟩ <;> rcases hy with ⟨a', cap', rfl, rfl⟩ | ⟨b', off', cap', rfl, hn', hb', hc'⟩
    · simp at hq
    all_goals
      go_enter Tryd.func12, Tryd.ntmps12
      go_wp2
      go_ret
      exact ⟨rfl, Below.refl _ _⟩
  rcases hx with ⟨a, cap, rfl, rfl⟩ | ⟨b, off, cap, rfl, hn, hb, hc⟩
  · have : ys = [] := List.eq_nil_of_length_eq_zero (by simpa using hlen.symm)
    subst this
    rcases hy with ⟨a', cap', rfl, _⟩ | ⟨b', off', cap', rfl, hn', hb', hc'⟩
    · rw [sameB_self]
      clear hlen
      go_enter Tryd.func12, Tryd.ntmps12
      go_wp2
      go_loop [5] (fun i => i = .int .i64 0) (fun _ => 0)
      case atStart => rfl
      case round =>
        subst hrel
        go_wp2
        go_ret
        exact ⟨rfl, Below.refl _ _⟩
    · simp at hn'
  · rcases hy with ⟨a', cap', rfl, hnil⟩ | ⟨b', off', cap', rfl, hn', hb', hc'⟩
    · subst hnil; simp at hlen; subst hlen; simp at hn
    · have hq : ((xs.length : Int) != (ys.length : Int)) = false := by simp; omega
      have HL := Lib.hid hlen
      clear hlen hb hb' hn hn' my
      go_enter Tryd.func12, Tryd.ntmps12
      go_wp2
      go_loopw [5] (fun i wr => ∃ k : Nat, k ≤ xs.length ∧ i = .int .i64 k ∧ (xs.take k = ys.take k) ∧ ∃ nq, wr = w.drewN nq) (fun i _ => xs.length - (intOf i).toNat)
      case atStart => exact ⟨0, Nat.zero_le _, rfl, rfl, 0, rfl⟩
      case round =>
        obtain ⟨k, hk, rfl, htk, nq, rfl⟩ := hrel
        have HT := Lib.hid htk
        clear htk
        by_cases hlt : k < xs.length
        · have hlt' : k < ys.length := by have := HL.out; omega
          have c1 := hc k hlt
          have c2 := hc' k hlt'
          have HC := Lib.hid hc
          have HC' := Lib.hid hc'
          clear hc hc'
          have j1 : (k : Int) < (xs.length : Int) := by omega
          have j2 : (k : Int) < (ys.length : Int) := by omega
          by_cases he : xs[k] = ys[k]
          · have hne : (xs[k] != ys[k]) = false := by simp [he]
            have HE := Lib.hid he
            clear he
            go_wp2_with fail
            go_quiet (fail)
            go_wp2
            refine ⟨⟨k + 1, by omega, by go_num, ?_, _, rfl⟩, by simp [intOf]; omega⟩
            rw [List.take_succ_eq_append_getElem hlt, List.take_succ_eq_append_getElem hlt', HT.out, HE.out]
          · have hne : (xs[k] != ys[k]) = true := by simpa using he
            have e1 : sameB xs ys = false := by
              unfold sameB; simp; intro h; subst h; exact he rfl
            have E1 := Lib.hid e1
            clear he e1
            go_wp2_with fail
            go_quiet (fail)
            go_wp2
            go_ret
            rw [E1.out]
            exact ⟨rfl, below_drewN (below_drewN (Below.refl _ _) _) _⟩
        · obtain rfl : k = xs.length := by omega
          have e1 : sameB xs ys = true := by
            have h1 := HT.out
            have h2 := HL.out
            rw [List.take_of_length_le (by omega), List.take_of_length_le (by omega)] at h1
            simp [sameB, h1]
          have E1 := Lib.hid e1
          clear e1 hc hc'
          go_wp2
          go_ret
          rw [E1.out]
          exact ⟨rfl, below_drewN (Below.refl _ _) _⟩
end Go.Proofs.YthhpinohbjmhcaaDoor
