/- Lists as bytes: List: a walk. -/
import Derived.Test.YtlhpgkaffbgkgaaGreatDoorOct1
import Derived.Test.YtlhpgkaffbgkgaaGreatDoorOctMath2
import Derived.Test.YtlhpgkaffbgkgaaGreatDoorBuilder
namespace Go.Proofs.YtlhpgkaffbgkgaaGreatDoor
open Go.RowKit Go.Oct
theorem strCells_S (l : List UInt8) : Lib.strCells (S l) = Lib.byteCells l := rfl
theorem byteCells_app (a b : List UInt8) : Lib.byteCells a ++ Lib.byteCells b = Lib.byteCells (a ++ b) := by simp [Lib.byteCells]
/-- what is laid of the first k texts -/
def listTo (ls : List (List UInt8)) (k : Nat) : List UInt8 := numL ls.length ++ ((ls.take k).map textL).flatten
theorem listTo_all (ls : List (List UInt8)) : listTo ls ls.length = listL ls := by unfold listTo listL; rw [List.take_length]
theorem listTo_succ {ls : List (List UInt8)} {k : Nat} (h : k < ls.length) : listTo ls (k + 1) = listTo ls k ++ textL ls[k] := by
  unfold listTo
  rw [List.take_succ_eq_append_getElem h, List.map_append, List.flatten_append, List.append_assoc]
  simp
theorem listTo_len {ls : List (List UInt8)} (M : Nat) (hM : ∀ l ∈ ls, l.length ≤ M) : ∀ k, k ≤ ls.length → (listTo ls k).length ≤ 9 + k * (M + 9)
  | 0, _ => by have := numL_len9 ls.length; unfold listTo; simp; omega
  | k + 1, h => by
    have h1 := listTo_len M hM k (by omega)
    have h2 := hM ls[k] (List.getElem_mem _)
    have h3 := numL_len9 ls[k].length
    rw [listTo_succ (by omega), List.length_append, Nat.succ_mul]
    unfold textL
    rw [List.length_append]
    omega
theorem builderAt_keep {T e : TypeId} {B b : Nat} {p : Value} {bs : List Value} {w w1 : World} (h : Lib.BuilderAt T e B b p bs w) (hb : Below w.heap.size w w1) : Lib.BuilderAt T e B b p bs w1 := by
  have hlt := h.lt
  obtain ⟨h1, v, h2, h3, h4⟩ := h
  exact ⟨h1, v, by rw [hb.block b hlt]; exact h2, owns_below h3 hb, h4⟩
theorem builder_keep {T e : TypeId} {B b : Nat} {bs : List Value} {w w1 : World} (h : Lib.IsBuilder T e B b bs w) (hb : Below w.heap.size w w1) : Lib.IsBuilder T e B b bs w1 :=
  h.elim (fun h => .inl (builderAt_keep h hb)) (fun h => .inr (builderAt_keep h hb))
def LBRel (ls : List (List UInt8)) (w : World) (iv : Value) (wr : World) : Prop :=
  ∃ k, k ≤ ls.length ∧ iv = .int .i64 (k : Int) ∧ Lib.IsBuilder 75 5 w.heap.size w.heap.size (Lib.byteCells (listTo ls k)) wr ∧ Below w.heap.size w wr
set_option maxRecDepth 100000 in
set_option maxHeartbeats 4000000 in
theorem olist_any (b off cap : Nat) (ls : List (List UInt8)) (w : World) (hv : Strs w (.slice (some ⟨b, off, none⟩) ls.length cap) ls) (hN : ls.length ≤ 1000) (hM : ∀ l ∈ ls, l.length ≤ 100000) (h0 : 0 < ls.length) :
    Calls Tryz.prog 22 #[.slice (some ⟨b, off, none⟩) ls.length cap] w fun e w' => e = .returned (.string (S (listL ls))) ∧ Below w.heap.size w w' := by
  obtain ⟨b', o', c', e, hb, hc⟩ := hv.full h0
  injection e with e1 e2 e3
  injection e1 with e1
  injection e1 with e1 e4
  subst e1 e4
  have HC := Lib.hid hc
  have hbw0 := hb
  clear hc hv e2 e3
  have hnl := numL_len9 ls.length
  have hSn : (S (numL ls.length)).size = (numL ls.length).length := by show (numL ls.length).toArray.size = _; simp
  have HF := Lib.hid (Lib.fresh_isBuilder 75 5 w)
  have H0 := Lib.hid (show listTo ls 0 = numL ls.length by unfold listTo; simp)
  have HM := Lib.hid hM
  clear hM
  go_enter Tryz.func22, Tryz.ntmps22
  go_wp2_with fail
  refine (number_as ls.length (by omega) _).mono ?_
  rintro e w1 ⟨rfl, hb1⟩
  have hz1 := hb1.size
  simp at hz1
  go_wp2_with fail
  refine (writeString_any w.heap.size w.heap.size [] _ w1 (builder_keep HF.out hb1) (by rw [hSn]; simp; omega) (by omega)).mono ?_
  rintro e w2 ⟨rfl, hB2, hb2⟩
  have hW2 : Below w.heap.size w w2 := (((Below.refl _ _).alloc (Nat.le_refl _) _).trans (hb1.mono (by simp))).trans hb2
  have HB2 := Lib.hid (hB2)
  clear hB2 hb2 hb1
  go_wp2_with fail
  go_loopw [13] (fun iv wr => LBRel ls w iv wr) (fun iv _ => ls.length - (intOf iv).toNat)
  case atStart => exact ⟨0, Nat.zero_le _, rfl, by rw [H0.out]; exact HB2.out, hW2⟩
  case round =>
    obtain ⟨k, hk, rfl, hB, hbw⟩ := hrel
    have HB := Lib.hid hB
    have hzw := hbw.size
    clear hB
    by_cases hlt : k < ls.length
    · have c0 := (hbw.cell (p := ⟨b, off + k, none⟩) hbw0).trans (HC.out k hlt)
      have hln := listTo_len 100000 HM.out k hk
      have hkm : k * (100000 + 9) ≤ 1000 * (100000 + 9) := Nat.mul_le_mul (by omega) (Nat.le_refl _)
      have hlk := HM.out _ (List.getElem_mem hlt)
      have htl := (textL_len ls[k]).2
      have HS := Lib.hid (listTo_succ hlt)
      obtain ⟨t, ht⟩ : ∃ t, ls[k] = t := ⟨_, rfl⟩
      rw [ht] at c0 hlk htl HS
      have hSt : (S t).size = t.length := S_size t
      have hSx : (S (textL t)).size = (textL t).length := S_size _
      clear ht
      go_wp2_with fail
      refine (otext_as (S t) (by omega) _).mono ?_
      rintro e w3 ⟨rfl, hb3⟩
      have hz3 := hb3.size
      go_wp2_with fail
      refine (writeString_any w.heap.size w.heap.size _ _ w3 (builder_keep HB.out hb3) (by rw [Lib.byteCells_length, S_data]; omega) (by omega)).mono ?_
      rintro e w4 ⟨rfl, hB4, hb4⟩
      have HB4 := Lib.hid (hB4)
      have hW4 := (hbw.trans (hb3.mono hzw)).trans hb4
      clear hB4
      go_wp2_with fail
      go_roundw
      case rel =>
        refine ⟨k + 1, by omega, by go_num, ?_, hW4⟩
        have h := HB4.out
        rw [strCells_S, byteCells_app] at h
        rw [HS.out]
        exact h
      case measure => simp [intOf]; omega
    · obtain rfl : k = ls.length := by omega
      have HA := Lib.hid (listTo_all ls)
      have HX := HB.out
      rw [HA.out] at HX
      have HX := Lib.hid HX
      go_wp2_with fail
      refine (Tryz.Builder_String_any w.heap.size w.heap.size _ _ HX.out hzw).mono ?_
      rintro e w5 ⟨rfl, hb5⟩
      go_wp2_with fail
      go_ret
      exact ⟨rfl, hbw.trans hb5⟩
end Go.Proofs.YtlhpgkaffbgkgaaGreatDoor
