/- The reference of layer 5: Show: a walk. -/
import Derived.Test.YtjjpngdbbjeaiaaGreatDoorRanRef1
import Derived.Test.YtjjpngdbbjeaiaaGreatDoorRanMath3
namespace Go.Proofs.YtjjpngdbbjeaiaaGreatDoor
open Go.RowKit
theorem showRQ_any (v : V4) (h : v.ok = true) (T : ByteArray) (hT : S v.show = T) (w : World) :
    Calls Tryz.prog 39 #[.agg #[.int .i64 v.a, .int .i64 v.b, .int .i64 v.c, .string v.p]] w fun e w' => e = .returned (.tuple #[.string T, .int .i64 0]) ∧ Below w.heap.size w w' := by
  have hb := verOk_bounds h
  have e1 : ((v.a.toNat : Nat) : Int) = v.a := by omega
  have e2 : ((v.b.toNat : Nat) : Int) = v.b := by omega
  have e3 : ((v.c.toNat : Nat) : Int) = v.c := by omega
  have hv : verErr v.a v.b v.c v.p.data.toList = 0 := by unfold verErr; rw [if_pos (show verOk v.a v.b v.c v.p.data.toList = true from h)]
  have := refShow_yes v.a.toNat v.b.toNat v.c.toNat v.p w (by rw [Lib.size_eq]; omega) (by omega) (by omega) (by omega) (by rw [e1, e2, e3]; exact hv)
  rw [e1, e2, e3] at this
  subst hT
  exact this
theorem rrcheck_as (v : Value) (bs : List Bnd) (r : Int) (h : rangeErr bs = r) (w : World) (hv : Bnds w v bs) (hlen : ∃ a cap, v = .slice a bs.length cap) (hp : ∀ x ∈ bs, x.v.p.size ≤ 9223372036854775807) :
    Calls Tryz.prog 100 #[v] w fun e w' => e = .returned (.int .i64 r) ∧ Below w.heap.size w w' := by
  subst h; exact rrcheck_any v bs w hv hlen hp
theorem showB_snoc (bs : List Bnd) (x : Bnd) : showB (bs ++ [x]) = showB bs ++ (if bs.isEmpty then [] else [32]) ++ x.show := by
  unfold showB
  rw [List.map_append]
  cases bs with
  | nil => simp [joinAt]
  | cons b bs =>
    rw [show List.map Bnd.show [x] = [x.show] from rfl, joinAt_snoc 32 _ (by simp)]
    simp
def RShRel (bs : List Bnd) (w1 : World) (v i : Value) (wr : World) : Prop :=
  ∃ (k : Nat) (out : ByteArray), k ≤ bs.length ∧ i = .int .i64 (k : Int) ∧ v = .string out ∧ out.data.toList = showB (bs.take k) ∧ out.size ≤ 63 * k ∧ Below w1.heap.size w1 wr
theorem rsh_step {bs : List Bnd} {k : Nat} {x : Bnd} {out A T : ByteArray} (ht : bs.take (k + 1) = bs.take k ++ [x]) (ho : out.data.toList = showB (bs.take k)) (hA : S (signL x.op) = A) (hT : S x.v.show = T) (hk : k ≤ bs.length) :
    (k = 0 → (out ++ A ++ T).data.toList = showB (bs.take (k + 1))) ∧ (0 < k → (out ++ ⟨#[32]⟩ ++ A ++ T).data.toList = showB (bs.take (k + 1))) := by
  have e1 : ∀ a b : ByteArray, (a ++ b).data.toList = a.data.toList ++ b.data.toList := by intro a b; simp
  rw [ht, showB_snoc]
  subst hA hT
  constructor
  · intro h
    subst h
    rw [e1, e1, ho]
    simp [S_data, Bnd.show]
  · intro h
    have hne : (bs.take k).isEmpty = false := by
      cases hb : bs.take k with
      | nil =>
        have := congrArg List.length hb
        rw [List.length_take, List.length_nil] at this
        omega
      | cons => rfl
    rw [e1, e1, e1, ho, hne]
    simp [S_data, Bnd.show]
end Go.Proofs.YtjjpngdbbjeaiaaGreatDoor
