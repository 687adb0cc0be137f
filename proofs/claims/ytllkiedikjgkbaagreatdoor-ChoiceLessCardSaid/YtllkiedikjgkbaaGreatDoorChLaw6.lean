/- ChoiceLess: Fewer needs keep the choices that more needs had. The law returns true. -/
import Derived.Test.YtllkiedikjgkbaaGreatDoorChPre
import Derived.Test.YtllkiedikjgkbaaGreatDoorChLess
namespace Go
open Go.RowKit
theorem Row.take {w : World} {size : Nat} {a : Option Addr} {cap n : Nat} {xs : List Value} (h : Row w size (.slice a n cap) n xs) {m : Nat} (hm : m ≤ n) : Row w size (.slice a m cap) m (xs.take (m * size)) := by
  have hms : m * size ≤ n * size := Nat.mul_le_mul_right _ hm
  obtain ⟨h1, h2, ⟨a', cap', h3, h4, h5⟩ | ⟨b, off, cap', h3, h4, h5, h6⟩⟩ := h
  · injection h3 with e1 e2 e3
    subst e1 e3
    obtain rfl : m = 0 := by omega
    exact ⟨by simp, Nat.zero_le _, .inl ⟨_, _, rfl, rfl, h5⟩⟩
  · injection h3 with e1 e2 e3
    subst e1 e3
    refine ⟨by rw [List.length_take]; omega, by omega, ?_⟩
    by_cases hz : m = 0
    · subst hz; exact .inl ⟨_, _, rfl, rfl, fun h => by cases h⟩
    · exact .inr ⟨b, off, _, rfl, by omega, h5, fun j hj => by rw [h6 j (by omega), List.getElem?_take_of_lt hj]⟩
theorem flat_take : ∀ (xs : List (Want × Value)) (m : Nat), (xs.flatMap WCells).take (m * 2) = (xs.take m).flatMap WCells
  | [], m => by simp
  | x :: xs, 0 => by simp
  | x :: xs, m + 1 => by
    rw [show (m + 1) * 2 = m * 2 + 1 + 1 from by omega, List.flatMap_cons, List.take_succ_cons, List.flatMap_cons, ← flat_take xs m]
    rfl
theorem Wants.take {w : World} {a : Option Addr} {cap : Nat} {xs : List (Want × Value)} (h : Wants w (.slice a xs.length cap) xs) {m : Nat} (hm : m ≤ xs.length) : Wants w (.slice a m cap) (xs.take m) := by
  have hl : (xs.take m).length = m := by rw [List.length_take]; omega
  have hr := Row.take h.1 hm
  rw [flat_take] at hr
  exact ⟨by rw [hl]; exact hr, fun x hx => h.2 x (List.mem_of_mem_take hx)⟩
def ApartN (os : List DOff) (k j : Nat) : Prop := (os.take k).Pairwise (fun x y => x.v ≠ y.v) ∧ ∀ i, i < j → ∀ x y, os[i]? = some x → os[k]? = some y → x.v ≠ y.v
theorem ApartN.next {os : List DOff} {k : Nat} (h : ApartN os k k) (hk : k < os.length) : ApartN os (k + 1) 0 := by
  refine ⟨?_, fun i hi => absurd hi (Nat.not_lt_zero _)⟩
  rw [List.take_succ_eq_append_getElem hk, List.pairwise_append]
  refine ⟨h.1, List.pairwise_singleton _ _, fun x hx y hy => ?_⟩
  obtain ⟨i, hi⟩ := List.mem_iff_getElem?.1 hx
  have hik : i < k := by
    have := (List.getElem?_eq_some_iff.1 hi).1
    rw [List.length_take] at this; omega
  rw [List.getElem?_take_of_lt hik] at hi
  rw [List.mem_singleton] at hy
  subst hy
  exact h.2 i hik x _ hi (List.getElem?_eq_getElem hk)
def LwRel (os : List DOff) (w : World) (b i : Value) (wr : World) : Prop := ∃ (k : Nat) (c : Bool), k ≤ os.length ∧ b = .bool c ∧ i = .int .i64 (k : Int) ∧ (c = true → ApartN os k 0) ∧ Below w.heap.size w wr
def LiRel (os : List DOff) (k : Nat) (w : World) (b i : Value) (wr : World) : Prop := ∃ (j : Nat) (c : Bool), j ≤ k ∧ b = .bool c ∧ i = .int .i64 (j : Int) ∧ (c = true → ApartN os k j) ∧ Below w.heap.size w wr
def LkRel (l m : List V4) (w : World) (x i : Value) (wr : World) : Prop := ∃ (j k : Nat), j ≤ l.length ∧ k ≤ m.length ∧ x = .int .i64 (k : Int) ∧ i = .int .i64 (j : Int) ∧ (l.drop j).Sublist (m.drop k) ∧ Below w.heap.size w wr
def LnRel (l m : List V4) (j : Nat) (w : World) (x : Value) (wr : World) : Prop := ∃ k : Nat, k ≤ m.length ∧ x = .int .i64 (k : Int) ∧ (l.drop j).Sublist (m.drop k) ∧ Below w.heap.size w wr
end Go
namespace Go.Proofs.YtllkiedikjgkbaaGreatDoor
open Go.RowKit Go.Maps
set_option maxRecDepth 100000 in
theorem needs_cap {W : World} {r : Reach} {b0 : Nat} {v : Value} {ns : List (Want × Value)} (hv : Value.okWide Tryz.prog W r b0 24 v) (h : Wants W v ns) : ∃ a cap, v = .slice a ns.length cap ∧ ns.length ≤ cap := by
  obtain ⟨_, a, cap, rfl⟩ := h.len
  refine ⟨a, cap, rfl, ?_⟩
  have ht := Tryz.underlying24
  simp only [Value.okWide, ht, Cell.okWide] at hv
  generalize ns.length = n at hv ⊢
  cases a with
  | some a => simp only [Cell.ok, ht] at hv; exact hv.1
  | none =>
    cases n with
    | zero => exact Nat.zero_le _
    | succ n => simp [Cell.ok, ht] at hv
set_option maxRecDepth 100000 in
set_option maxHeartbeats 8000000 in
theorem chLess_any (nm : ByteArray) (oa : Option Addr) (oc : Nat) (os : List DOff) (lk nv : Value) (lock : List Pik) (needs : List (Want × Value)) (w : World)
    (ho : Offs w (.slice oa os.length oc) os) (hl : Piks w lk lock) (hn : Wants w nv needs) (hcap : ∃ a cap, nv = .slice a needs.length cap ∧ needs.length ≤ cap) (hE : Env w) :
    Calls Tryz.prog 5 #[.agg #[.string nm, .slice oa os.length oc], lk, nv] w fun e w' => e = .returned (.bool true) ∧ Below w.heap.size w w' := by
  obtain ⟨a1, cap1, rfl⟩ := hl.len
  obtain ⟨a2, cap2, rfl, hle⟩ := hcap
  have hx1 := Below.refl (w.heap.size + 1) (w.alloc (.cells #[.string nm, .slice oa os.length oc] 29))
  have hW1 := below_first hx1
  have s1 : (w.alloc (.cells #[.string nm, .slice oa os.length oc] 29)).heap.size = w.heap.size + 1 := by simp
  by_cases hz : needs.length = 0
  · have HA := Lib.hid (awake_any _ (hE.below hW1))
    have HW1 := Lib.hid hW1
    rw [hz]
    clear ho hl hn hle hx1 s1 hW1 hE
    go_enter Tryz.func5, Tryz.ntmps5
    go_wp2_with fail
    refine HA.out.mono ?_
    rintro e w3 ⟨rfl, hb3⟩
    have hb4 := HW1.out.trans (hb3.mono HW1.out.size)
    go_wp2_with fail
    go_ret
    exact ⟨rfl, hb4⟩
  have hW2 := hW1.alloc hW1.size (.cells #[.string nm, .slice oa os.length oc] 29)
  have hpk := Below_heap_new (w.alloc (.cells #[.string nm, .slice oa os.length oc] 29)) (.cells #[.string nm, .slice oa os.length oc] 29)
  rw [s1] at hpk
  have hSm := Lib.hid (small_any (.slice (some ⟨w.heap.size + 1, 0, none⟩) 1 1) (.slice a1 lock.length cap1) (.slice a2 needs.length cap2) [⟨nm, os, oa, oc⟩] lock needs _
    ⟨row_blk (n := 1) (xs := [DPack.mk nm os oa oc].flatMap DPack.cells) hpk rfl rfl (by decide) (by unfold maxLen; decide), fun p hp => by simp at hp; subst hp; exact ⟨ho.below hW2 (Nat.le_refl _), _, _, rfl⟩⟩ (hl.below hW2 (Nat.le_refl _)) (hn.below hW2 (Nat.le_refl _)))
  have c0 := box_cells hx1 0
  have c1 := box_cells hx1 1
  simp only [List.getElem?_toArray, List.getElem?_cons_zero, List.getElem?_cons_succ] at c0 c1
  have hnx := hn.len.1
  obtain ⟨m, hm⟩ : ∃ m, needs.length = m + 1 := ⟨needs.length - 1, by omega⟩
  have hT := hn.take (m := m) (by omega)
  rw [hm] at hle hSm hnx ⊢
  have hn' : Wants w (.slice a2 (m + 1) cap2) needs := by rw [← hm]; exact hn
  unfold maxLen at hnx
  have q0 : (((m + 1 : Nat) : Int) == 0) = false := by rw [beq_eq_false_iff_ne]; omega
  have q1 : ((m + 1 : Nat) : Int) - 1 = (m : Int) := by omega
  have hmx : m ≤ 9223372036854775807 := by omega
  have q4 : IntKind.i64.wrap ((m : Nat) : Int) = (m : Int) := by rw [IntKind.wrap_i64]; omega
  have q2 : (0 : Int) ≤ (m : Int) := by omega
  have q3 : (m : Int) ≤ (cap2 : Int) := by omega
  have HO := Lib.hid ho
  have HL := Lib.hid hl
  have HN := Lib.hid hn'
  have HT := Lib.hid hT
  have HE := Lib.hid hE
  have HX := Lib.hid hx1
  have HM := Lib.hid hm
  have HW2 := Lib.hid hW2
  clear ho hl hn hn' hT hE hx1 hW1 hpk s1 hW2 hm hz
  go_enter Tryz.func5, Tryz.ntmps5
  go_wp2_with fail
  refine hSm.out.mono ?_
  rintro e w2 ⟨⟨b, rfl, hb⟩, hbw⟩
  have hb2 := HW2.out.trans (hbw.mono HW2.out.size)
  have hx2 := HX.out.trans ((((Below.refl _ _).alloc (Nat.le_refl _) _).trans (hbw.mono (by simp))).mono (by simp))
  cases b
  · have HA := Lib.hid (awake_any w2 (HE.out.below hb2))
    clear hb c0 c1
    go_wp2_with fail
    refine HA.out.mono ?_
    rintro e w3 ⟨rfl, hb3⟩
    have hb4 := below_then hb2 hb3
    go_wp2_with fail
    go_ret
    exact ⟨rfl, hb4⟩
  · have hsm := hb rfl
    have d0 := box_cells hx2 0
    have d1 := box_cells hx2 1
    simp only [List.getElem?_toArray, List.getElem?_cons_zero, List.getElem?_cons_succ] at d0 d1
    have hst : PkAt w.heap.size nm (.slice oa os.length oc) w2.drew w2.drew := ⟨cell_on d0 (Below.refl _ _).drew, cell_on d1 (Below.refl _ _).drew, Below.refl _ _⟩
    have hd2 : Below w.heap.size w w2.drew := hb2.drew
    have hin : ∀ W, Below w2.drew.heap.size w2.drew W → Below w.heap.size w W := fun W h => below_then hd2 h
    have hbd : ∀ x ∈ needs.take m, x.1.bs.length ≤ 1000 ∧ ∀ b ∈ x.1.bs, b.v.p.size ≤ 300 := fun x hx => hsm.nd.bounds x (List.mem_of_mem_take hx)
    have HOf : Hid (∀ W, Below w2.drew.heap.size w2.drew W → Calls Tryz.prog 20 #[.agg #[.string nm, .slice oa os.length oc], .slice a1 lock.length cap1, .slice a2 (m + 1) cap2] W (OffersPost lock nm needs os W)) := fun W h =>
      offers_any nm _ os _ lock _ needs W (HO.out.below (hin W h) (Nat.le_refl _)) (HL.out.below (hin W h) (Nat.le_refl _)) (HN.out.below (hin W h) (Nat.le_refl _)) (HE.out.below (hin W h)) hsm.pack.1 (fun o ho => (hsm.pack.2 o ho).pre) hsm.nd.bounds
    have HOt : Hid (∀ W, Below w2.drew.heap.size w2.drew W → Calls Tryz.prog 20 #[.agg #[.string nm, .slice oa os.length oc], .slice a1 lock.length cap1, .slice a2 m cap2] W (OffersPost lock nm (needs.take m) os W)) := fun W h =>
      offers_any nm _ os _ lock _ (needs.take m) W (HO.out.below (hin W h) (Nat.le_refl _)) (HL.out.below (hin W h) (Nat.le_refl _)) (HT.out.below (hin W h) (Nat.le_refl _)) (HE.out.below (hin W h)) hsm.pack.1 (fun o ho => (hsm.pack.2 o ho).pre) hbd
    have HD2 := Lib.hid hd2
    have hosx : os.length ≤ 1000000 := hsm.pack.1
    clear hb c0 c1 d0 d1 hsm hin hd2 hbw hx2 hb2 hbd
    go_wp2_with fail
    refine wp_region_held_drew (S := (fun W => PkAt w.heap.size nm (.slice oa os.length oc) w2.drew W)) (by kernel_rfl) (hst) (fun hHeld => ?_)
    refine wpAnyH_take (i := 0) (v := ?_) rfl (by kernel_rfl) (by kernel_rfl) (by kernel_rfl) (fun _ _ _ h => h) (Or.inl ⟨by kernel_rfl, ?_⟩) hHeld ?_
    rotate_left
    · (rintro W ⟨e0, e1, _⟩; go_simp; (try with_reducible rfl))
    (try simp only [Act.put, List.getElem_toArray, List.getElem_cons_zero, List.setIfInBounds_toArray, List.set_cons_succ, List.set_cons_zero])
    refine wpAnyH_take (i := 1) (v := ?_) rfl (by kernel_rfl) (by kernel_rfl) (by kernel_rfl) (fun _ _ _ h => h) (Or.inl ⟨by kernel_rfl, ?_⟩) hHeld ?_
    rotate_left
    · (rintro W ⟨e0, e1, _⟩; go_simp; (try with_reducible rfl))
    (try simp only [Act.put, List.getElem_toArray, List.getElem_cons_succ, List.getElem_cons_zero, List.setIfInBounds_toArray, List.set_cons_succ, List.set_cons_zero])
    refine wpAnyH_take (i := 2) (v := ?_) rfl (by kernel_rfl) (by kernel_rfl) (by kernel_rfl) (fun _ _ _ h => h) (Or.inl ⟨by kernel_rfl, ?_⟩) hHeld ?_
    rotate_left
    · (rintro W ⟨e0, e1, _⟩; go_simp; (try with_reducible rfl))
    (try simp only [Act.put, List.getElem_toArray, List.getElem_cons_succ, List.getElem_cons_zero, List.setIfInBounds_toArray, List.set_cons_succ, List.set_cons_zero])
    refine wpAnyH_take (i := 4) (v := ?_) rfl (by kernel_rfl) (by kernel_rfl) (by kernel_rfl) (fun _ _ _ h => h) (Or.inl ⟨by kernel_rfl, ?_⟩) hHeld ?_
    rotate_left
    · (rintro W ⟨e0, e1, _⟩; go_simp; (try with_reducible rfl))
    (try simp only [Act.put, List.getElem_toArray, List.getElem_cons_succ, List.getElem_cons_zero, List.setIfInBounds_toArray, List.set_cons_succ, List.set_cons_zero])
    refine wpAnyH_take (i := 5) (v := ?_) rfl (by kernel_rfl) (by kernel_rfl) (by kernel_rfl) (fun _ _ _ h => h) (Or.inl ⟨by kernel_rfl, ?_⟩) hHeld ?_
    rotate_left
    · (rintro W ⟨e0, e1, _⟩; go_simp; (try with_reducible rfl))
    (try simp only [Act.put, List.getElem_toArray, List.getElem_cons_succ, List.getElem_cons_zero, List.setIfInBounds_toArray, List.set_cons_succ, List.set_cons_zero])
    refine wpAnyH_take (i := 6) (v := ?_) rfl (by kernel_rfl) (by kernel_rfl) (by kernel_rfl) (fun _ _ _ h => h) (Or.inl ⟨by kernel_rfl, ?_⟩) hHeld ?_
    rotate_left
    · (rintro W ⟨e0, e1, _⟩; go_simp; (try with_reducible rfl))
    (try simp only [Act.put, List.getElem_toArray, List.getElem_cons_succ, List.getElem_cons_zero, List.setIfInBounds_toArray, List.set_cons_succ, List.set_cons_zero])
    refine wpAnyH_take (i := 7) (v := ?_) rfl (by kernel_rfl) (by kernel_rfl) (by kernel_rfl) (fun _ _ _ h => h) (Or.inl ⟨by kernel_rfl, ?_⟩) hHeld ?_
    rotate_left
    · (rintro W ⟨e0, e1, _⟩; go_simp; (try with_reducible rfl))
    (try simp only [Act.put, List.getElem_toArray, List.getElem_cons_succ, List.getElem_cons_zero, List.setIfInBounds_toArray, List.set_cons_succ, List.set_cons_zero])
    refine wpAnyH_take (i := 8) (v := ?_) rfl (by kernel_rfl) (by kernel_rfl) (by kernel_rfl) (fun _ _ _ h => h) (Or.inl ⟨by kernel_rfl, ?_⟩) hHeld ?_
    rotate_left
    · (rintro W ⟨e0, e1, _⟩; go_simp; (try with_reducible rfl))
    (try simp only [Act.put, List.getElem_toArray, List.getElem_cons_succ, List.getElem_cons_zero, List.setIfInBounds_toArray, List.set_cons_succ, List.set_cons_zero])
    refine wpAnyH_take (i := 9) (v := ?_) rfl (by kernel_rfl) (by kernel_rfl) (by kernel_rfl) (fun _ _ _ h => h) (Or.inl ⟨by kernel_rfl, ?_⟩) hHeld ?_
    rotate_left
    · (rintro W ⟨e0, e1, _⟩; go_simp; (try with_reducible rfl))
    (try simp only [Act.put, List.getElem_toArray, List.getElem_cons_succ, List.getElem_cons_zero, List.setIfInBounds_toArray, List.set_cons_succ, List.set_cons_zero])
    refine wpAnyH_take (i := 10) (v := ?_) rfl (by kernel_rfl) (by kernel_rfl) (by kernel_rfl) (fun _ _ _ h => h) (Or.inl ⟨by kernel_rfl, ?_⟩) hHeld ?_
    rotate_left
    · (rintro W ⟨e0, e1, _⟩; go_simp; (try with_reducible rfl))
    (try simp only [Act.put, List.getElem_toArray, List.getElem_cons_succ, List.getElem_cons_zero, List.setIfInBounds_toArray, List.set_cons_succ, List.set_cons_zero])
    refine wpAnyH_ready (rs := [3]) (by kernel_rfl) (by simp) ?_
    refine AllReadyH.cons rfl (fun K hK => ?_) AllReadyH.nil
    go_simp
    refine (HOf.out _ hHeld.2.2).mono ?_
    rintro e w3 ⟨x, out, rfl, hch, hrow, hk3, _⟩
    obtain ⟨_, xa, xc, rfl⟩ := hrow.len
    have HR3 := Lib.hid (⟨hch, hrow⟩ : _ ∧ _)
    clear hch hrow
    refine hK.out _ _ (hHeld.on hk3) (fun hHeld => ?_)
    clear hK K
    (try simp only [Act.put, List.getElem_toArray, List.getElem_cons_succ, List.getElem_cons_zero, List.setIfInBounds_toArray, List.set_cons_succ, List.set_cons_zero])
    refine wpAnyH_ready (rs := [11]) (by kernel_rfl) (by simp) ?_
    refine AllReadyH.cons rfl (fun K hK => ?_) AllReadyH.nil
    go_simp
    refine (HOt.out _ hHeld.2.2).mono ?_
    rintro e w4 ⟨x, out', rfl, hch, hrow, hk4, _⟩
    obtain ⟨_, ya, yc, rfl⟩ := hrow.len
    have HR4 := Lib.hid (⟨hch, hrow, HR3.out.2.below hk4 (Nat.le_refl _)⟩ : _ ∧ _ ∧ _)
    have hS4 := hHeld.on hk4
    clear hch hrow
    refine hK.out _ _ (hS4) (fun hHeld => ?_)
    clear hK K
    (try simp only [Act.put, List.getElem_toArray, List.getElem_cons_succ, List.getElem_cons_zero, List.setIfInBounds_toArray, List.set_cons_succ, List.set_cons_zero])
    refine wpAnyH_take (i := 12) (v := ?_) rfl (by kernel_rfl) (by kernel_rfl) (by kernel_rfl) (fun _ _ _ h => h) (Or.inl ⟨by kernel_rfl, ?_⟩) hHeld ?_
    rotate_left
    · (rintro W ⟨e0, e1, _⟩; go_simp; (try with_reducible rfl))
    (try simp only [Act.put, List.getElem_toArray, List.getElem_cons_succ, List.getElem_cons_zero, List.setIfInBounds_toArray, List.set_cons_succ, List.set_cons_zero])
    refine wpAnyH_take (i := 13) (v := ?_) rfl (by kernel_rfl) (by kernel_rfl) (by kernel_rfl) (fun _ _ _ h => h) (Or.inl ⟨by kernel_rfl, ?_⟩) hHeld ?_
    rotate_left
    · (rintro W ⟨e0, e1, _⟩; go_simp; (try with_reducible rfl))
    (try simp only [Act.put, List.getElem_toArray, List.getElem_cons_succ, List.getElem_cons_zero, List.setIfInBounds_toArray, List.set_cons_succ, List.set_cons_zero])
    refine wpAnyH_done (by kernel_rfl) ?_ _
    have hD5 := HD2.out.trans (hHeld.2.2.mono HD2.out.size)
    have HP := Lib.hid hHeld
    have HOs := Lib.hid (HO.out.below hD5 (Nat.le_refl _)).1
    have HAw : Hid (∀ W, Below w4.heap.size w4 W → Calls Tryz.prog 17 #[] W fun e w' => e = .returned (.bool true) ∧ Below W.heap.size W w') := fun W h => awake_any W (HE.out.below (below_then hD5 h))
    have HD5 := Lib.hid hD5
    clear hHeld hst hD5 hS4 hk3 hk4
    go_wp2_with fail
    go_loopw [9, 10] (fun b i wr => LwRel os w4 b i wr) (fun _ i _ => os.length - (intOf i).toNat)
    case atStart => exact ⟨0, true, Nat.zero_le _, rfl, rfl, fun _ => ⟨by simp, fun i hi => absurd hi (Nat.not_lt_zero _)⟩, Below.refl _ _⟩
    case round =>
      obtain ⟨k, c, hk, rfl, rfl, hap, hb⟩ := hrel
      have HAp := Lib.hid hap
      have f1 := cell_on HP.out.2.1 hb
      have z1 := cell_lt f1
      clear hap
      by_cases hlt : k < os.length
      · have i0 : (0 : Int) ≤ (k : Int) := by omega
        have i1 : (k : Int) < (os.length : Int) := by omega
        obtain ⟨w9, rfl⟩ : ∃ x, x = wr := ⟨_, rfl⟩
        go_wp2_with fail
        go_loopw [9, 11] (fun b j wy => LiRel os k w9 b j wy) (fun _ j _ => k - (intOf j).toNat)
        case atStart => exact ⟨0, c, Nat.zero_le _, rfl, rfl, HAp.out, Below.refl _ _⟩
        case round =>
          obtain ⟨j, c', hj, rfl, rfl, hap2, hb3⟩ := hrel
          have hb5 := below_then hb hb3
          have HA2 := Lib.hid hap2
          have g1 := cell_on f1 hb3
          have y1 := cell_lt g1
          clear hap2
          by_cases hlt2 : j < k
          · have j0 : (0 : Int) ≤ (j : Int) := by omega
            have j1 : (j : Int) < (k : Int) := by omega
            have j2 : (j : Int) < (os.length : Int) := by omega
            have hlj : j < os.length := by omega
            obtain ⟨bx, ox, rfl, hbx, c0, c1, c2, c3, _, _⟩ := HOs.out.at' hb5 hlj
            obtain ⟨by', oy, he, hby, d0, d1, d2, d3, _, _⟩ := HOs.out.at' hb5 hlt
            injection he with he
            injection he with he1 he2
            subst he1 he2
            obtain ⟨⟨xv, xy, xs, xa', xc'⟩, hxe⟩ : ∃ x, os[j] = x := ⟨_, rfl⟩
            obtain ⟨⟨yv, yy, ys, ya', yc'⟩, hye⟩ : ∃ x, os[k] = x := ⟨_, rfl⟩
            rw [hxe] at c0 c1 c2 c3
            rw [hye] at d0 d1 d2 d3
            simp only at c0 c1 c2 c3 d0 d1 d2 d3
            obtain ⟨r, hr⟩ : ∃ r, decide (xv.a = yv.a ∧ xv.b = yv.b ∧ xv.c = yv.c ∧ xv.p = yv.p) = r := ⟨_, rfl⟩
            have r1 := fun W => ver_eq xv.a xv.b xv.c xv.p yv.a yv.b yv.c yv.p r hr.symm W
            have HX := Lib.hid (⟨hxe, hye, hr⟩ : _ ∧ _ ∧ _)
            clear hxe hye hr
            cases c'
            · go_wp2_with fail
              go_quiet (fail)
              go_wp2_with fail
              go_roundw
              case rel => exact ⟨j + 1, false, hlt2, rfl, by go_num, (fun h => by cases h), below_drewN hb3 _⟩
              case measure => simp [intOf]; omega
            · cases r
              · go_wp2_with fail
                go_quiet (fail)
                go_wp2_with fail
                go_roundw
                case rel =>
                  refine ⟨j + 1, true, hlt2, rfl, by go_num, fun _ => ⟨(HA2.out (by trivial)).1, fun i hi x y hx hy hxy => ?_⟩, below_drewN hb3 _⟩
                  rcases Nat.lt_succ_iff_lt_or_eq.1 hi with h | rfl
                  · exact (HA2.out (by trivial)).2 i h x y hx hy hxy
                  · rw [List.getElem?_eq_getElem hlj, HX.out.1] at hx
                    rw [List.getElem?_eq_getElem hlt, HX.out.2.1] at hy
                    injection hx with hx
                    injection hy with hy
                    subst hx hy
                    have := of_decide_eq_false HX.out.2.2
                    simp only at hxy
                    subst hxy
                    exact this ⟨rfl, rfl, rfl, rfl⟩
                case measure => simp [intOf]; omega
              · go_wp2_with fail
                go_quiet (fail)
                go_wp2_with fail
                go_roundw
                case rel => exact ⟨j + 1, false, hlt2, rfl, by go_num, (fun h => by cases h), below_drewN hb3 _⟩
                case measure => simp [intOf]; omega
          · obtain rfl : j = k := by omega
            go_wp2_with fail
            go_roundw
            case rel => exact ⟨j + 1, c', hlt, rfl, by go_num, fun h => (HA2.out h).next hlt, hb5⟩
            case measure => simp [intOf]; omega
      · have i1 : ¬ (k : Int) < (os.length : Int) := by omega
        cases c
        · have HA := Lib.hid (HAw.out wr hb)
          go_wp2_with fail
          refine HA.out.mono ?_
          rintro e w5 ⟨rfl, hb3⟩
          have hb4 := below_then HD5.out (below_then hb hb3)
          go_wp2_with fail
          go_ret
          exact ⟨rfl, hb4⟩
        · have hap : os.Pairwise fun x y => x.v ≠ y.v := by
            have := (HAp.out rfl).1
            rwa [List.take_of_length_le (by omega)] at this
          have HSub := Lib.hid (ChoiceIs.less hap (fun x hx => List.mem_of_mem_take hx) HR3.out.1 HR4.out.1)
          have hmo : out.length ≤ 9223372036854775807 := Nat.le_trans HR3.out.2.len.1 (by unfold maxLen; decide)
          have hmp : out'.length ≤ 9223372036854775807 := Nat.le_trans HR4.out.2.1.len.1 (by unfold maxLen; decide)
          obtain ⟨w9, rfl⟩ : ∃ x, x = wr := ⟨_, rfl⟩
          clear hap
          go_wp2_with fail
          go_loopw [12, 13] (fun x i wz => LkRel (out.map DOff.v) (out'.map DOff.v) w9 x i wz) (fun _ i _ => out.length - (intOf i).toNat)
          case atStart => exact ⟨0, 0, Nat.zero_le _, Nat.zero_le _, rfl, rfl, HSub.out, Below.refl _ _⟩
          case round =>
            obtain ⟨j, k', hj, hk', rfl, rfl, hsb, hb3⟩ := hrel
            rw [List.length_map] at hj hk'
            have hb5 := below_then hb hb3
            by_cases hlt2 : j < out.length
            · have j0 : (0 : Int) ≤ (j : Int) := by omega
              have j1 : (j : Int) < (out.length : Int) := by omega
              have HSb := Lib.hid hsb
              clear hsb
              obtain ⟨w10, rfl⟩ : ∃ x, x = wr := ⟨_, rfl⟩
              go_wp2_with fail
              go_loopw [12] (fun x wz => LnRel (out.map DOff.v) (out'.map DOff.v) j w10 x wz) (fun x _ => out'.length - (intOf x).toNat)
              case atStart => exact ⟨k', by rw [List.length_map]; exact hk', rfl, HSb.out, Below.refl _ _⟩
              case round =>
                obtain ⟨p, hp, rfl, hsb2, hb7⟩ := hrel
                have hb8 := below_then hb3 hb7
                have hb9 := below_then hb5 hb7
                have hlj : j < (out.map DOff.v).length := by rw [List.length_map]; exact hlt2
                have hpl := sub_lt hsb2 hlj
                have hpl2 : p < out'.length := by rw [List.length_map] at hpl; exact hpl
                have p0 : (0 : Int) ≤ (p : Int) := by omega
                have p1 : (p : Int) < (out'.length : Int) := by omega
                have p2 : ((p : Int) == (out'.length : Int)) = false := by rw [beq_eq_false_iff_ne]; omega
                obtain ⟨bx, ox, rfl, hbx, c0, c1, c2, c3, _, _⟩ := HR4.out.2.1.at' hb9 hpl2
                obtain ⟨by', oy, rfl, hby, d0, d1, d2, d3, _, _⟩ := HR4.out.2.2.at' hb9 hlt2
                obtain ⟨⟨xv, xy, xs, xa', xc'⟩, hxe⟩ : ∃ x, out'[p] = x := ⟨_, rfl⟩
                obtain ⟨⟨yv, yy, ys, ya', yc'⟩, hye⟩ : ∃ x, out[j] = x := ⟨_, rfl⟩
                rw [hxe] at c0 c1 c2 c3
                rw [hye] at d0 d1 d2 d3
                simp only at c0 c1 c2 c3 d0 d1 d2 d3
                obtain ⟨r, hr⟩ : ∃ r, decide (xv.a = yv.a ∧ xv.b = yv.b ∧ xv.c = yv.c ∧ xv.p = yv.p) = r := ⟨_, rfl⟩
                have r1 := fun W => ver_eq xv.a xv.b xv.c xv.p yv.a yv.b yv.c yv.p r hr.symm W
                have HX := Lib.hid (⟨hxe, hye, hr⟩ : _ ∧ _ ∧ _)
                have HS2 := Lib.hid hsb2
                clear hxe hye hr hsb2
                cases r
                · go_wp2_with fail
                  go_quiet (fail)
                  go_wp2_with fail
                  go_roundw
                  case rel =>
                    refine ⟨p + 1, hpl, by go_num, sub_ne HS2.out hlj hpl fun h => ?_, below_drewN hb7 _⟩
                    rw [List.getElem_map, List.getElem_map, HX.out.1, HX.out.2.1] at h
                    simp only at h
                    subst h
                    exact of_decide_eq_false HX.out.2.2 ⟨rfl, rfl, rfl, rfl⟩
                  case measure => simp [intOf]; omega
                · go_wp2_with fail
                  go_quiet (fail)
                  go_wp2_with fail
                  go_roundw
                  case rel => exact ⟨j + 1, p + 1, hlj, hpl, by go_num, by go_num, sub_eq HS2.out hlj hpl, below_drewN hb8 _⟩
                  case measure => simp [intOf]; omega
            · have j1 : ¬ (j : Int) < (out.length : Int) := by omega
              have HA := Lib.hid (HAw.out wr hb5)
              go_wp2_with fail
              refine HA.out.mono ?_
              rintro e w5 ⟨rfl, hb7⟩
              have hb8 := below_then HD5.out (below_then hb5 hb7)
              go_wp2_with fail
              go_ret
              exact ⟨rfl, hb8⟩
end Go.Proofs.YtllkiedikjgkbaaGreatDoor
