/- CommandLines: the walk. -/
import Derived.Test.YtjjpngdbbjeaiaaGreatDoorCmdAwake
import Derived.Test.YtjjpngdbbjeaiaaGreatDoorCmdSame
namespace Go
open Go.RowKit
theorem wpList_append_run {P : Program} {ops : Array Oper} {rest : List Oper} {o : Oper} {a : Act} {Q : Exit → Act → World → Prop} {w w' : World} {v : Value} (hw : Region.wanted o (yielded ops a.tmps) = true) (s x : Operand) (t : TypeId)
    (ho : o.op = .call { callee := .builtin .append, args := #[s, x], argTypes := #[t, t] }) (vs vx : Value) (hs : a.eval s = vs) (hx : a.eval x = vx)
    (hrun : (Builtin.append_ #[t, t] o.type #[vs, vx]).run P w = .ok v w') (h : wpList P ops Q rest (a.put o.dst v) w') : wpList P ops Q (o :: rest) a w := by
  refine wpList_step fun K hK => ?_
  rw [if_pos hw]
  unfold Oper.wp
  simp [execOp, ho, resolve, invoke, builtin, hs, hx, hrun, Result.andThen]
  exact hK _ _ h
theorem lineL_len {l : List UInt8} {x : List Want × List Pck} (h : lineL l = some x) : x.1.length + x.2.length = 1 := by
  unfold lineL at h
  split at h
  · split at h
    · split at h
      · injection h with h; subst h; rfl
      · cases h
    · cases h
  · split at h
    · split at h
      · injection h with h; subst h; rfl
      · cases h
    · cases h
theorem linesL_len : ∀ {ls : List (List UInt8)} {x : List Want × List Pck}, linesL ls = some x → x.1.length + x.2.length = ls.length
  | [], x, h => by rw [linesL] at h; injection h with h; subst h; rfl
  | l :: ls, x, h => by
    rw [linesL] at h
    unfold both at h
    cases h1 : lineL l with
    | none => rw [h1] at h; cases h
    | some a =>
      cases h2 : linesL ls with
      | none => rw [h1, h2] at h; cases h
      | some b =>
        rw [h1, h2] at h
        injection h with h
        subst h
        have g1 := lineL_len h1
        have g2 := linesL_len h2
        simp only [List.length_append, List.length_cons]
        omega
theorem asksL_len {l : List UInt8} {x : List Want × List Pck} (h : asksL l = some x) : x.1.length ≤ l.length + 1 ∧ x.2.length ≤ l.length + 1 := by
  have h1 := linesL_len h
  have h2 := linesOf_count l
  omega
theorem Wants.both {w : World} {v : Value} {xs ys : List (Want × Value)} (h : Row w 2 v (xs.length + ys.length) (xs.flatMap WCells ++ ys.flatMap WCells)) (hx : ∀ x ∈ xs, RvOk w x) (hy : ∀ x ∈ ys, RvOk w x) : Wants w v (xs ++ ys) := by
  refine ⟨by rw [List.length_append, List.flatMap_append]; exact h, fun x hm => ?_⟩
  rcases List.mem_append.1 hm with hm | hm
  · exact hx x hm
  · exact hy x hm
theorem Pcks.both {w : World} {v : Value} {xs ys : List Pck} (h : Row w 5 v (xs.length + ys.length) (xs.flatMap Pck.cells ++ ys.flatMap Pck.cells)) : Pcks w v (xs ++ ys) := by
  unfold Pcks
  rw [List.length_append, List.flatMap_append]; exact h
/-- 'append(own, src...)' of rows that came in: the run, whatever the source -/
theorem app_row {P : Program} {w : World} {base : Nat} {t e : TypeId} {i : TypeInfo} {z : Value} {size bytes : Nat} (ht : P.underlying t = some (.slice e)) (hi : P.info? e = some i) (hz : i.zero = some z) (hsize : i.size = size) (hby : i.bytes = bytes) (hzs : z.cells.size = size) (hsz : 0 < size)
    {v : Value} {n m cap : Nat} {xs ys : List Value} {a : Option Addr} (hown : w.ownsRow base e size v n xs) (hsrc : Row w size (.slice a m cap) m ys) (h1 : ∀ u ∈ ys, u.oneCell' = true) (hlen : n + m ≤ 1000000) (hb : bytes ≤ 1000) (hbase : base ≤ w.heap.size) :
    ∃ v' w', (Builtin.append_ #[t, t] t #[v, .slice a m cap]).run P w = .ok v' w' ∧ w'.ownsRow base e size v' (n + m) (xs ++ ys) ∧ w.grownBy w' v.ownBlock := by
  have hl : ys.length = m * size := hsrc.1
  have hbs : (n + m) * bytes ≤ 140737488355328 := Nat.le_trans (Nat.mul_le_mul hlen hb) (by decide)
  obtain ⟨_, _, ⟨a', cap', h3, h4, h5⟩ | ⟨b, off, cap', h3, h4, h5, h6⟩⟩ := hsrc
  · have hys : ys = [] := List.eq_nil_of_length_eq_zero (by rw [hl, h4, Nat.zero_mul])
    subst h4 hys
    injection h3 with h3 _ h7
    subst h3 h7
    cases a with
    | none =>
      have hc := h5 rfl
      subst hc
      subst hsize
      exact ⟨v, w, run_append_owned_none w base t t e i i.size ht hi v n _ hown, by simpa using hown, ⟨rfl, rfl, rfl, Nat.le_refl _, fun _ _ _ => rfl⟩⟩
    | some ad =>
      obtain ⟨v', w', h2, h3, h4, _⟩ := run_append_own (P := P) (w := w) base t t e i z size bytes ht hi hz hsize hby hzs hsz v n xs hown ad 0 cap [] (by simp) (by intro j u hj; simp at hj) (by simp) (by unfold maxLen; omega) hbs hbase
      exact ⟨v', w', h2, by simpa using h3, h4⟩
  · injection h3 with h3 _ h7
    subst h3
    obtain ⟨v', w', h2, h3', h4', _⟩ := run_append_own (P := P) (w := w) base t t e i z size bytes ht hi hz hsize hby hzs hsz v n xs hown ⟨b, off, none⟩ m cap ys hl (by
      intro j u hj
      have hjl : j < m * size := by rw [← hl]; exact (List.getElem?_eq_some_iff.1 hj).1
      rw [show (⟨b, off, none⟩ : Addr).add j = ⟨b, off + j, none⟩ by unfold Addr.add; split <;> simp_all, h6 j hjl, hj]) h1 (by unfold maxLen; omega) hbs hbase
    exact ⟨v', w', h2, h3', h4'⟩
theorem wcells_one {xs : List (Want × Value)} (h : ∀ x ∈ xs, ∃ a n c, x.2 = .slice a n c) : ∀ u ∈ xs.flatMap WCells, u.oneCell' = true := by
  intro u hu
  obtain ⟨x, hx, hu⟩ := List.mem_flatMap.1 hu
  obtain ⟨a, n, c, e⟩ := h x hx
  simp [WCells, e] at hu
  rcases hu with rfl | rfl <;> rfl
theorem pcells_one {xs : List Pck} : ∀ u ∈ xs.flatMap Pck.cells, u.oneCell' = true := by
  intro u hu
  obtain ⟨x, hx, hu⟩ := List.mem_flatMap.1 hu
  simp [Pck.cells] at hu
  rcases hu with rfl | rfl | rfl | rfl | rfl <;> rfl
theorem own_empty (w : World) (e : TypeId) (size : Nat) : (w.alloc (.cells #[] e)).ownsRow w.heap.size e size (.slice (some ⟨w.heap.size, 0, none⟩) 0 0) 0 [] :=
  World.ownsRow_made w #[] 0 (Nat.le_refl _) (Nat.zero_le _) (by simp)
/-- two lists behind each other in memory that the call makes -/
theorem app_two {P : Program} {w : World} {t e : TypeId} {i : TypeInfo} {z : Value} {size bytes : Nat} (ht : P.underlying t = some (.slice e)) (hi : P.info? e = some i) (hz : i.zero = some z) (hsize : i.size = size) (hby : i.bytes = bytes) (hzs : z.cells.size = size) (hsz : 0 < size) (hb : bytes ≤ 1000)
    {m cap n cap' : Nat} {xs ys : List Value} {a a' : Option Addr} (h1 : Row w size (.slice a m cap) m xs) (h2 : Row w size (.slice a' n cap') n ys) (g1 : ∀ u ∈ xs, u.oneCell' = true) (g2 : ∀ u ∈ ys, u.oneCell' = true) (hm : m ≤ 100000) (hn : n ≤ 100000) :
    ∃ v5 w5 v6 w6, (Builtin.append_ #[t, t] t #[.slice (some ⟨w.heap.size, 0, none⟩) 0 0, .slice a m cap]).run P (w.alloc (.cells #[] e)) = .ok v5 w5 ∧ (Builtin.append_ #[t, t] t #[v5, .slice a' n cap']).run P w5 = .ok v6 w6 ∧
      Row w6 size v6 (m + n) (xs ++ ys) ∧ (∃ A c, v6 = .slice A (m + n) c) ∧ Below w.heap.size w w6 := by
  have b0 := (Below.refl w.heap.size w).alloc (Nat.le_refl _) (.cells #[] e)
  obtain ⟨v5, w5, r5, o5, k5⟩ := app_row ht hi hz hsize hby hzs hsz (own_empty w e size) (h1.below b0 (Nat.le_refl _)) g1 (by omega) hb (by simp)
  have b5 := below_grown b0 (own_empty w e size) k5 (by simp)
  obtain ⟨v6, w6, r6, o6, k6⟩ := app_row ht hi hz hsize hby hzs hsz o5 (h2.below b5 (Nat.le_refl _)) g2 (by omega) hb b5.size
  have b6 := below_grown b5 o5 k6 b5.size
  rw [List.nil_append, Nat.zero_add] at o6
  have hrow : Row w6 size v6 (m + n) (xs ++ ys) := Row.of_owns o6
  refine ⟨v5, w5, v6, w6, r5, r6, hrow, ?_, b6⟩
  obtain ⟨_, _, ⟨a', c, h, h0, _⟩ | ⟨b, off, c, h, _⟩⟩ := hrow
  · exact ⟨a', c, by rw [h, h0]⟩
  · exact ⟨_, c, h⟩
end Go
namespace Go.Proofs.YtjjpngdbbjeaiaaGreatDoor
open Go.RowKit
set_option maxRecDepth 100000 in
set_option maxHeartbeats 2000000 in
theorem commandLines_walk (a b : ByteArray) (w : World) (hE : Env w) :
    Calls Tryz.prog 13 #[.string a, .string b] w fun e w' => e = .returned (.bool true) ∧ Below w.heap.size w w' := by
  have HE := Lib.hid hE
  clear hE
  by_cases h1 : 4000 < a.size
  · have q1 : decide ((4000 : Int) < (a.size : Int)) = true := by simp; omega
    clear h1
    go_enter Tryz.func13, Tryz.ntmps13
    go_wp2_with fail
    refine (awake_any _ HE.out).mono ?_
    rintro e w9 ⟨rfl, hb9⟩
    go_wp2_with fail
    go_ret
    exact ⟨rfl, hb9⟩
  have q1 : decide ((4000 : Int) < (a.size : Int)) = false := by simp; omega
  by_cases h2 : 4000 < b.size
  · have q2 : decide ((4000 : Int) < (b.size : Int)) = true := by simp; omega
    clear h1 h2
    go_enter Tryz.func13, Tryz.ntmps13
    go_wp2_with fail
    refine (awake_any _ HE.out).mono ?_
    rintro e w9 ⟨rfl, hb9⟩
    go_wp2_with fail
    go_ret
    exact ⟨rfl, hb9⟩
  have q2 : decide ((4000 : Int) < (b.size : Int)) = false := by simp; omega
  have ha4 : a.size ≤ 4000 := by omega
  have hb4 : b.size ≤ 4000 := by omega
  clear h1 h2
  by_cases h0 : a.size = 0
  · have hem : a.toList.isEmpty = true := by
      rw [Lib.toList_data]
      rw [Lib.size_eq] at h0
      rw [List.eq_nil_of_length_eq_zero h0]; rfl
    clear h0
    go_enter Tryz.func13, Tryz.ntmps13
    go_wp2_with fail
    refine (awake_any _ HE.out).mono ?_
    rintro e w9 ⟨rfl, hb9⟩
    go_wp2_with fail
    go_ret
    exact ⟨rfl, hb9⟩
  have hne : a.data.toList ≠ [] := by intro h; rw [Lib.size_eq, h] at h0; exact h0 rfl
  have hem : a.toList.isEmpty = false := by
    rw [Lib.toList_data]
    cases h : a.data.toList with
    | nil => exact absurd h hne
    | cons x l => rfl
  have i0 : (0 : Int) ≤ (a.size : Int) - 1 := by omega
  have i1 : (a.size : Int) - 1 < (a.size : Int) := by omega
  have i2 : ((a.size : Int) - 1).toNat = a.size - 1 := by omega
  have hk : a.size - 1 < a.size := by omega
  have hlast : a.data.toList.getLast? = some a[a.size - 1] := by
    rw [List.getLast?_eq_getElem?, ← Lib.size_eq, List.getElem?_eq_getElem (by rw [← Lib.size_eq]; exact hk)]; rfl
  obtain ⟨y, hy⟩ : ∃ y, a[a.size - 1] = y := ⟨_, rfl⟩
  rw [hy] at hlast
  clear h0
  by_cases hy10 : y = 10
  · have q3 : ((y.toNat : Int) == 10) = true := by rw [hy10]; decide
    clear hy10 hlast hne
    go_enter Tryz.func13, Tryz.ntmps13
    go_wp2_with fail
    refine (awake_any _ HE.out).mono ?_
    rintro e w9 ⟨rfl, hb9⟩
    go_wp2_with fail
    go_ret
    exact ⟨rfl, hb9⟩
  have q3 : ((y.toNat : Int) == 10) = false := by rw [beq_eq_false_iff_ne]; intro h; exact hy10 (UInt8.toNat_inj.1 (by show y.toNat = 10; omega))
  obtain ⟨C, hC⟩ : ∃ C, a ++ ⟨#[10]⟩ ++ b = C := ⟨_, rfl⟩
  have hCd : C.data.toList = a.data.toList ++ 10 :: b.data.toList := by rw [← hC]; simp [ByteArray.data_append]
  have hCz : C.size ≤ 8001 := by rw [Lib.size_eq, hCd, List.length_append, List.length_cons, ← Lib.size_eq, ← Lib.size_eq]; omega
  have HB := Lib.hid (asksL_both (b := b.data.toList) hne (by rw [hlast]; intro h; injection h with h; exact hy10 h))
  rw [← hCd] at HB
  clear hy10 hlast hne hCd
  go_enter Tryz.func13, Tryz.ntmps13
  go_wp2_with fail
  refine (asks_any a _ HE.out (by omega)).mono ?_
  rintro e w1 ⟨vn1, vp1, ns1, ps1, e1, rfl, hn1, hp1, ⟨na1, nc1, rfl⟩, ⟨pa1, pc1, rfl⟩, hx1, hb1⟩
  have HN1 := Lib.hid hn1
  have HP1 := Lib.hid hp1
  have HX1 := Lib.hid hx1
  clear hn1 hp1 hx1
  go_wp2_with fail
  refine (asks_any b _ (HE.out.below hb1) (by omega)).mono ?_
  rintro e w2 ⟨vn2, vp2, ns2, ps2, e2, rfl, hn2, hp2, ⟨na2, nc2, rfl⟩, ⟨pa2, pc2, rfl⟩, hx2, hb2⟩
  have hb12 := below_then hb1 hb2
  have HN1 := Lib.hid (HN1.out.below hb2 (Nat.le_refl _))
  have HP1 := Lib.hid (HP1.out.below hb2 (Nat.le_refl _))
  have HN2 := Lib.hid hn2
  have HP2 := Lib.hid hp2
  have HX2 := Lib.hid hx2
  clear hn2 hp2 hx2
  go_wp2_with fail
  refine (asks_any C _ (HE.out.below hb12) (by omega)).mono ?_
  rintro e w3 ⟨vn3, vp3, ns3, ps3, e3, rfl, hn3, hp3, ⟨na3, nc3, rfl⟩, ⟨pa3, pc3, rfl⟩, hx3, hb3⟩
  have hb13 := below_then hb12 hb3
  have HN1 := Lib.hid (HN1.out.below hb3 (Nat.le_refl _))
  have HP1 := Lib.hid (HP1.out.below hb3 (Nat.le_refl _))
  have HN2 := Lib.hid (HN2.out.below hb3 (Nat.le_refl _))
  have HP2 := Lib.hid (HP2.out.below hb3 (Nat.le_refl _))
  have HN3 := Lib.hid hn3
  have HP3 := Lib.hid hp3
  have HX3 := Lib.hid hx3
  clear hn3 hp3 hx3
  have key : (e1 = 0 ∧ e2 = 0 ∧ e3 = 0 ∧ asksL a.data.toList = some (ns1.map Prod.fst, ps1) ∧ asksL b.data.toList = some (ns2.map Prod.fst, ps2) ∧ ns3.map Prod.fst = (ns1 ++ ns2).map Prod.fst ∧ ps3 = ps1 ++ ps2) ∨
      ((e1 = 270 ∨ (e1 = 0 ∧ e2 = 270)) ∧ e3 = 270 ∧ ns3 = [] ∧ ps3 = []) := by
    have hB := HB.out
    rcases HX1.out with ⟨h1, g1⟩ | ⟨h1, g1, _⟩
    · rcases HX2.out with ⟨h2, g2⟩ | ⟨h2, g2, _⟩
      · left
        rw [g1, g2] at hB
        rcases HX3.out with ⟨h3, g3⟩ | ⟨_, g3, _⟩
        · rw [hB] at g3
          simp only [both] at g3
          injection g3 with g3
          injection g3 with g4 g5
          exact ⟨h1, h2, h3, g1, g2, by rw [← g4, List.map_append], g5.symm⟩
        · rw [hB] at g3; cases g3
      · right
        rw [g1, g2, both_none] at hB
        rcases HX3.out with ⟨h3, g3⟩ | ⟨h3, g3, g4, g5⟩
        · rw [hB] at g3; cases g3
        · exact ⟨.inr ⟨h1, h2⟩, h3, g4, g5⟩
    · right
      rw [g1] at hB
      have : asksL C.data.toList = none := by rw [hB]; rfl
      rcases HX3.out with ⟨h3, g3⟩ | ⟨h3, g3, g4, g5⟩
      · rw [this] at g3; cases g3
      · exact ⟨.inl h1, h3, g4, g5⟩
  clear HX1 HX2 HX3 HB
  rcases key with ⟨rfl, rfl, rfl, hA1, hA2, hnn, rfl⟩ | ⟨hee, rfl, rfl, rfl⟩
  · have hL1 := asksL_len hA1
    have hL2 := asksL_len hA2
    simp only [List.length_map, ← Lib.size_eq] at hL1 hL2
    have HNN := Lib.hid hnn
    obtain ⟨i1', hin, hnz0, hnz1, hnz2⟩ := info_parts info_need
    obtain ⟨ip, hip, hpz0, hpz1, hpz2⟩ := info_parts info_pick
    obtain ⟨v5, w5, v6, w6, hr5, hr6, hrow, ⟨A6, c6, rfl⟩, hb6⟩ := app_two (P := Tryz.prog) Tryz.underlying61 hin hnz0 hnz1 hnz2 rfl (by decide) (by decide) HN1.out.1 HN2.out.1 (wcells_one (fun x hx => by obtain ⟨_, a, c, h⟩ := HN1.out.2 x hx; exact ⟨_, _, _, h⟩)) (wcells_one (fun x hx => by obtain ⟨_, a, c, h⟩ := HN2.out.2 x hx; exact ⟨_, _, _, h⟩)) (by omega) (by omega)
    have HW6 : Hid (Wants w6 (.slice A6 (ns1.length + ns2.length) c6) (ns1 ++ ns2)) := Wants.both hrow (fun x hx => (HN1.out.2 x hx).below hb6 (Nat.le_refl _)) (fun x hx => (HN2.out.2 x hx).below hb6 (Nat.le_refl _))
    have HSn := Lib.hid (sameNeeds_self _ _ ns3 (ns1 ++ ns2) w6 (HN3.out.below hb6 (Nat.le_refl _)) ⟨_, _, rfl⟩ HW6.out ⟨_, _, by rw [List.length_append]⟩ HNN.out)
    have HP1 := Lib.hid (HP1.out.below hb6 (Nat.le_refl _))
    have HP2 := Lib.hid (HP2.out.below hb6 (Nat.le_refl _))
    have HP3 := Lib.hid (HP3.out.below hb6 (Nat.le_refl _))
    have hb16 := below_then hb13 hb6
    clear hrow hnn hA1 hA2
    go_wp2_with (at_builtin; go_must (first | (refine wpList_append_run rfl _ _ 61 rfl _ _ rfl rfl hr5 ?_) | (refine wpList_append_run rfl _ _ 61 rfl _ _ rfl rfl hr6 ?_)))
    refine HSn.out.mono ?_
    rintro e w7 ⟨rfl, hb7⟩
    have hb17 := below_then hb16 hb7
    have HP1 := Lib.hid (HP1.out.below hb7 (Nat.le_refl _))
    have HP2 := Lib.hid (HP2.out.below hb7 (Nat.le_refl _))
    have HP3 := Lib.hid (HP3.out.below hb7 (Nat.le_refl _))
    obtain ⟨v8, w8, v9, w9, hr8, hr9, hrow, ⟨A9, c9, rfl⟩, hb9⟩ := app_two (P := Tryz.prog) Tryz.underlying62 hip hpz0 hpz1 hpz2 rfl (by decide) (by decide) HP1.out HP2.out pcells_one pcells_one (by omega) (by omega)
    have HW9 : Hid (Pcks w9 (.slice A9 (ps1.length + ps2.length) c9) (ps1 ++ ps2)) := Pcks.both hrow
    have HSp := Lib.hid (samePicks_self _ _ (ps1 ++ ps2) w9 (HP3.out.below hb9 (Nat.le_refl _)) ⟨_, _, rfl⟩ HW9.out ⟨_, _, by rw [List.length_append]⟩)
    have hb19 := below_then hb17 hb9
    clear hrow hr5 hr6
    rw [List.length_append] at HSp
    go_wp2_with (at_builtin; go_must (first | (refine wpList_append_run rfl _ _ 62 rfl _ _ rfl rfl hr8 ?_) | (refine wpList_append_run rfl _ _ 62 rfl _ _ rfl rfl hr9 ?_)))
    refine HSp.out.mono ?_
    rintro e w10 ⟨rfl, hb10⟩
    have hb110 := below_then hb19 hb10
    clear hr8 hr9
    go_wp2_with fail
    refine (awake_any _ (HE.out.below hb110)).mono ?_
    rintro e w11 ⟨rfl, hb11⟩
    go_wp2_with fail
    go_ret
    exact ⟨rfl, below_then hb110 hb11⟩
  · rw [show ([] : List (Want × Value)).length = 0 from rfl, show ([] : List Pck).length = 0 from rfl]
    rcases hee with rfl | ⟨rfl, rfl⟩
    all_goals
      go_wp2_with fail
      refine (awake_any _ (HE.out.below hb13)).mono ?_
      rintro e w9 ⟨rfl, hb9⟩
      go_wp2_with fail
      go_ret
      exact ⟨rfl, below_then hb13 hb9⟩
end Go.Proofs.YtjjpngdbbjeaiaaGreatDoor
