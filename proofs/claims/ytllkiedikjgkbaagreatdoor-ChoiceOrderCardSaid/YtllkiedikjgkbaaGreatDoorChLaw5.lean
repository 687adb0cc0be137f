/- ChoiceOrder: Choices come in one order, whatever order offers with versions of their own have; each meets all needs of its name, and is not yanked, or locked. The law returns true. -/
import Derived.Test.YtllkiedikjgkbaaGreatDoorChPre
import Derived.Test.YtllkiedikjgkbaaGreatDoorChReach
import Derived.Test.YtllkiedikjgkbaaGreatDoorChSames
import Derived.Test.YtllkiedikjgkbaaGreatDoorTabLast
import Derived.Test.YtllkiedikjgkbaaGreatDoorSolPlains
namespace Go
open Go.RowKit
/-- the other way round, as it grows -/
def OdOwn (T TO : TypeId) (nm : ByteArray) (os : List DOff) (w3 : World) (m : Nat) (wr : World) : Prop :=
  ∃ v, wr.heap[w3.heap.size]? = some (.cells #[.string nm, v] T) ∧ wr.ownsRow (w3.heap.size + 1) TO 6 v m ((os.reverse.take m).flatMap DOff.cells) ∧ Below w3.heap.size w3 wr
theorem OdOwn.on {T TO : TypeId} {nm : ByteArray} {os : List DOff} {w3 : World} {m : Nat} {W W' : World} (h : OdOwn T TO nm os w3 m W) (hb : Below W.heap.size W W') : OdOwn T TO nm os w3 m W' := by
  obtain ⟨v, h1, h2, h3⟩ := h
  exact ⟨v, (hb.block _ (Array.getElem?_eq_some_iff.1 h1).1).trans h1, owns_below h2 hb, h3.trans (hb.mono h3.size)⟩
def ApB (os : List DOff) (m : Nat) : Prop := ∀ (a b : Nat) (x y : DOff), a < b → os.length ≤ b + m → os[a]? = some x → os[b]? = some y → x.v ≠ y.v
theorem ApB.all {os : List DOff} (h : ApB os os.length) : os.Pairwise fun x y => x.v ≠ y.v := by
  rw [List.pairwise_iff_getElem]
  intro i j hi hj hij
  exact h i j _ _ hij (by omega) (List.getElem?_eq_getElem hi) (List.getElem?_eq_getElem hj)
theorem ApB.next {os : List DOff} {m k : Nat} (hk : os.length = m + k + 1) (h : ApB os m) (h2 : ∀ (i : Nat) (x y : DOff), i < k → os[i]? = some x → os[k]? = some y → x.v ≠ y.v) : ApB os (m + 1) := by
  intro a b x y hab hb hx hy
  by_cases e : b = k
  · subst e; exact h2 a x y hab hx hy
  · exact h a b x y hab (by omega) hx hy
def OrdOut (T TO : TypeId) (nm : ByteArray) (os : List DOff) (w3 : World) (b i : Value) (wr : World) : Prop :=
  ∃ (m : Nat) (c : Bool), m ≤ os.length ∧ b = .bool c ∧ i = .int .i64 ((os.length : Int) - (m : Int) - 1) ∧ (c = true → ApB os m) ∧ OdOwn T TO nm os w3 m wr
def OrdIn (os : List DOff) (m k : Nat) (w : World) (b j : Value) (wr : World) : Prop :=
  ∃ (a : Nat) (c : Bool), a ≤ k ∧ b = .bool c ∧ j = .int .i64 (a : Int) ∧ (c = true → ApB os m ∧ ∀ (i : Nat) (x y : DOff), i < a → os[i]? = some x → os[k]? = some y → x.v ≠ y.v) ∧ Below w.heap.size w wr
theorem rev_take {os : List DOff} {m k : Nat} (hk : os.length = m + k + 1) : os.reverse.take (m + 1) = os.reverse.take m ++ [os[k]'(by omega)] := by
  rw [List.take_succ_eq_append_getElem (by rw [List.length_reverse]; omega), List.getElem_reverse]
  congr 3
  omega
def OrdKp (lock : List Pik) (nm : ByteArray) (v : V4) (w : World) (b i : Value) (wr : World) : Prop :=
  ∃ (k : Nat) (c : Bool), k ≤ lock.length ∧ b = .bool c ∧ i = .int .i64 (k : Int) ∧ c = (lock.take k).any (lockB nm v) ∧ Below w.heap.size w wr
def OrdCt (n : Nat) (w : World) (i : Value) (wr : World) : Prop := ∃ k : Nat, k ≤ n ∧ i = .int .i64 (k : Int) ∧ Below w.heap.size w wr
/-- what the last region looks at -/
def OlS (bn on bo oo b : Nat) (x : Nam) (rv : Value) (o : V4) (nm : ByteArray) (w0 W : World) : Prop :=
  (W.cell? ⟨bn, on, none⟩ = some (.string (S x)) ∧ W.cell? ⟨bn, on + 1, none⟩ = some rv) ∧ (W.cell? ⟨bo, oo, none⟩ = some (.int .i64 o.a) ∧ W.cell? ⟨bo, oo + 1, none⟩ = some (.int .i64 o.b) ∧ W.cell? ⟨bo, oo + 2, none⟩ = some (.int .i64 o.c) ∧ W.cell? ⟨bo, oo + 3, none⟩ = some (.string o.p)) ∧ W.cell? ⟨b, 0, none⟩ = some (.string nm) ∧ Below w0.heap.size w0 W
theorem OlS.on {bn on bo oo b : Nat} {x : Nam} {rv : Value} {o : V4} {nm : ByteArray} {w0 W W' : World} (h : OlS bn on bo oo b x rv o nm w0 W) (hb : Below W.heap.size W W') : OlS bn on bo oo b x rv o nm w0 W' := by
  obtain ⟨⟨a0, a1⟩, ⟨b0, b1, b2, b3⟩, c, d⟩ := h
  exact ⟨⟨cell_on a0 hb, cell_on a1 hb⟩, ⟨cell_on b0 hb, cell_on b1 hb, cell_on b2 hb, cell_on b3 hb⟩, cell_on c hb, below_then d hb⟩
end Go
namespace Go.Proofs.YtllkiedikjgkbaaGreatDoor
open Go.RowKit Go.Maps
set_option maxRecDepth 100000 in
set_option maxHeartbeats 8000000 in
theorem chOrder_any (nm : ByteArray) (oa : Option Addr) (oc : Nat) (os : List DOff) (lk nv : Value) (lock : List Pik) (needs : List (Want × Value)) (w : World)
    (ho : Offs w (.slice oa os.length oc) os) (hl : Piks w lk lock) (hn : Wants w nv needs) (hE : Env w) :
    Calls Tryz.prog 4 #[.agg #[.string nm, .slice oa os.length oc], lk, nv] w fun e w' => e = .returned (.bool true) ∧ Below w.heap.size w w' := by
  obtain ⟨a1, cap1, rfl⟩ := hl.len
  obtain ⟨_, a2, cap2, rfl⟩ := hn.len
  have hx1 := Below.refl (w.heap.size + 1) (w.alloc (.cells #[.string nm, .slice oa os.length oc] 29))
  have hW1 := below_first hx1
  have s1 : (w.alloc (.cells #[.string nm, .slice oa os.length oc] 29)).heap.size = w.heap.size + 1 := by simp
  have hW2 := hW1.alloc hW1.size (.cells #[.string nm, .slice oa os.length oc] 29)
  have hpk := Below_heap_new (w.alloc (.cells #[.string nm, .slice oa os.length oc] 29)) (.cells #[.string nm, .slice oa os.length oc] 29)
  rw [s1] at hpk
  have hSm := Lib.hid (small_any (.slice (some ⟨w.heap.size + 1, 0, none⟩) 1 1) (.slice a1 lock.length cap1) (.slice a2 needs.length cap2) [⟨nm, os, oa, oc⟩] lock needs _
    ⟨row_blk (n := 1) (xs := [DPack.mk nm os oa oc].flatMap DPack.cells) hpk rfl rfl (by decide) (by unfold maxLen; decide), fun p hp => by simp at hp; subst hp; exact ⟨ho.below hW2 (Nat.le_refl _), _, _, rfl⟩⟩ (hl.below hW2 (Nat.le_refl _)) (hn.below hW2 (Nat.le_refl _)))
  have c0 := box_cells hx1 0
  have c1 := box_cells hx1 1
  simp only [List.getElem?_toArray, List.getElem?_cons_zero, List.getElem?_cons_succ] at c0 c1
  have HO := Lib.hid ho
  have HL := Lib.hid hl
  have HN := Lib.hid hn
  have HE := Lib.hid hE
  have HX := Lib.hid hx1
  have HW2 := Lib.hid hW2
  clear ho hl hn hE hx1 hW1 hpk s1 hW2
  go_enter Tryz.func4, Tryz.ntmps4
  go_wp2_with fail
  refine hSm.out.mono ?_
  rintro e w2 ⟨⟨b, rfl, hb⟩, hbw⟩
  have hb2 := HW2.out.trans (hbw.mono HW2.out.size)
  have hx2 := HX.out.trans ((((Below.refl _ _).alloc (Nat.le_refl _) _).trans (hbw.mono (by simp))).mono (by simp))
  cases b
  · have HA := Lib.hid (awake_any w2 (HE.out.below hb2))
    clear hb c0 c1
    go_wp2_with fail
    refine HA.out.mono ?_
    rintro e w3 ⟨rfl, hb3⟩
    have hb4 := below_then hb2 hb3
    go_wp2_with fail
    go_ret
    exact ⟨rfl, hb4⟩
  have hsm := hb rfl
  have d0 := box_cells hx2 0
  have d1 := box_cells hx2 1
  simp only [List.getElem?_toArray, List.getElem?_cons_zero, List.getElem?_cons_succ] at d0 d1
  have HOf := Lib.hid (offers_any nm _ os _ lock _ needs w2 (HO.out.below hb2 (Nat.le_refl _)) (HL.out.below hb2 (Nat.le_refl _)) (HN.out.below hb2 (Nat.le_refl _)) (HE.out.below hb2) hsm.pack.1 (fun o ho => (hsm.pack.2 o ho).pre) hsm.nd.bounds)
  have HSm := Lib.hid hsm
  have HB2 := Lib.hid hb2
  have HD0 := Lib.hid d0
  have HD1 := Lib.hid d1
  clear hb c0 c1 hsm hbw hx2 hb2
  go_wp2_with fail
  refine HOf.out.mono ?_
  rintro e w3 ⟨x, out, rfl, hch, hrow, hk3, _⟩
  obtain ⟨hol, xa, xc, rfl⟩ := hrow.len
  have hol2 : out.length ≤ 9223372036854775807 := Nat.le_trans hol (by decide)
  have HB3 := Lib.hid (below_then HB2.out hk3)
  have HCh := Lib.hid hch
  have HRo := Lib.hid hrow
  have g0 := cell_on HD0.out hk3
  have g1 := cell_on HD1.out hk3
  have HG0 := Lib.hid g0
  have HG1 := Lib.hid g1
  have hzw := cell_lt g0
  have hosx : os.length ≤ 1000000 := HSm.out.pack.1
  have hls : lock.length ≤ 9223372036854775807 := by have := HSm.out.fewl; omega
  have hns : needs.length ≤ 9223372036854775807 := Nat.le_trans HN.out.len.1 (by decide)
  have q1 : IntKind.i64.wrap ((os.length : Int) - 1) = (os.length : Int) - (0 : Nat) - 1 := by rw [IntKind.wrap_i64]; omega
  have hown : OdOwn 29 39 nm os w3 0 (w3.alloc (.cells #[.string nm, .slice none 0 0] 29)) := ⟨.slice none 0 0, Below_heap_new _ _, World.ownsRow_nil _ _ _ _, (Below.refl _ _).alloc (Nat.le_refl _) _⟩
  have HOw := Lib.hid hown
  clear hch hrow hk3 d0 d1 hol hown
  go_wp2_with fail
  go_loopw [9, 10] (fun b i wr => OrdOut 29 39 nm os w3 b i wr) (fun _ i _ => (intOf i + 1).toNat)
  case atStart => exact ⟨0, true, Nat.zero_le _, rfl, by first | rfl | (congr 1; done) | (congr 1; omega), fun _ a b x y hab hb hx hy => by have := (List.getElem?_eq_some_iff.1 hy).1; omega, HOw.out⟩
  case round =>
    obtain ⟨m, c, hm, rfl, rfl, hap, hown⟩ := hrel
    have HAp := Lib.hid hap
    have HOwn := Lib.hid hown
    obtain ⟨v, hblk, hrw, hbw⟩ := hown
    obtain ⟨va, vcap, rfl⟩ := owns_len hrw
    have HBk := Lib.hid hblk
    have HRw := Lib.hid hrw
    have HBw := Lib.hid hbw
    clear hap hblk hrw hbw
    by_cases hlt : m < os.length
    · obtain ⟨k, hk⟩ : ∃ k : Nat, os.length = m + k + 1 := ⟨os.length - m - 1, by omega⟩
      have hkl : k < os.length := by omega
      have e1 : (os.length : Int) - (m : Int) - 1 = (k : Int) := by omega
      have e3 : (k : Int) - 1 = (os.length : Int) - ((m + 1 : Nat) : Int) - 1 := by omega
      rw [e1]
      have i0 : (0 : Int) ≤ (k : Int) := by omega
      have i1 : (k : Int) < (os.length : Int) := by omega
      have HK := Lib.hid hk
      have HE3 := Lib.hid e3
      have hm6 : m ≤ 1000000 := by omega
      have hw6 : Below w.heap.size w wr := HB3.out.trans (HBw.out.mono HB3.out.size)
      have HW6 := Lib.hid hw6
      obtain ⟨bx, ox, rfl, hbx, y0, y1, y2, y3, y4, y5⟩ := HO.out.1.at' hw6 hkl
      have HY := Lib.hid (⟨y0, y1, y2, y3⟩ : _ ∧ _ ∧ _ ∧ _)
      obtain ⟨⟨ov, oy, ons, ona, onc⟩, hxe⟩ : ∃ x, os[k] = x := ⟨_, rfl⟩
      have HX := Lib.hid hxe
      have HRv : Hid (os.reverse.take (m + 1) = os.reverse.take m ++ [⟨ov, oy, ons, ona, onc⟩]) := by
        show _ = _
        rw [rev_take hk, hxe]
      have hzb : w3.heap.size < wr.heap.size := (Array.getElem?_eq_some_iff.1 HBk.out).1
      obtain ⟨i0', hi, hz0, hz1, hz2⟩ := info_of info_offer
      clear e1 e3 hlt hw6 hk hm
      go_upto_region 9 with fail
      go_cut [] (fun wx => OdOwn 29 39 nm os w3 (m + 1) wx)
      case first =>
        rw [hxe] at y0 y1 y2 y3 y4 y5
        simp only [DOff.nv] at y0 y1 y2 y3 y4 y5
        have hd := (Below.refl wr.heap.size wr).drew
        have y0 := cell_on y0 hd
        have y1 := cell_on y1 hd
        have y2 := cell_on y2 hd
        have y3 := cell_on y3 hd
        have y4 := cell_on y4 hd
        have y5 := cell_on y5 hd
        have p1 := cell_on ((HBw.out.cell (p := ⟨w.heap.size, 1, none⟩) hzw).trans HG1.out) hd
        have hblk : wr.drew.heap[w3.heap.size]? = some (.cells #[.string nm, .slice va m vcap] 29) := (hd.block _ hzb).trans HBk.out
        have HR5 := Lib.hid (owns_below HRw.out hd)
        have HB5 := Lib.hid (HBw.out.trans (hd.mono HBw.out.size))
        have hzb5 : w3.heap.size < wr.drew.heap.size := Nat.lt_of_lt_of_le hzb hd.size
        have f1 := blk_cells hblk 1
        simp only [List.getElem?_toArray, List.getElem?_cons_zero, List.getElem?_cons_succ] at f1
        clear hd HBk HRw hzb g1
        go_wp2_with fail
        refine wp_region_any (by kernel_rfl) ?_
        change wpAny _ _ _ _ _ _ _ (World.drew _)
        generalize wr.drew = W5 at *
        refine wpAny_take (i := 0) (v := ?_) rfl (by kernel_rfl) (by kernel_rfl) (by kernel_rfl) (fun _ _ _ h => h) (Or.inl ⟨by kernel_rfl, ?_⟩) ?_
        rotate_left
        · (intro W; go_simp; (try with_reducible rfl))
        (try simp only [Act.put, List.getElem_toArray, List.getElem_cons_zero, List.setIfInBounds_toArray, List.set_cons_succ, List.set_cons_zero])
        refine wpAny_take (i := 2) (v := ?_) rfl (by kernel_rfl) (by kernel_rfl) (by kernel_rfl) (fun _ _ _ h => h) (Or.inl ⟨by kernel_rfl, ?_⟩) ?_
        rotate_left
        · (intro W; go_simp; (try with_reducible rfl))
        (try simp only [Act.put, List.getElem_toArray, List.getElem_cons_succ, List.getElem_cons_zero, List.setIfInBounds_toArray, List.set_cons_succ, List.set_cons_zero])
        refine wpAny_take (i := 4) (v := ?_) rfl (by kernel_rfl) (by kernel_rfl) (by kernel_rfl) (fun _ _ _ h => h) (Or.inl ⟨by kernel_rfl, ?_⟩) ?_
        rotate_left
        · (intro W; go_simp; (try with_reducible rfl))
        (try simp only [Act.put, List.getElem_toArray, List.getElem_cons_succ, List.getElem_cons_zero, List.setIfInBounds_toArray, List.set_cons_succ, List.set_cons_zero])
        refine wpAny_ready (rs := [1, 3]) (by kernel_rfl) (by simp) ?_
        refine AllReady.cons rfl (fun K hK0 => ?_) (AllReady.cons rfl (fun K hK0 => ?_) (AllReady.nil))
        · have HK := Lib.hid hK0
          clear hK0
          go_simp
          refine HK.out _ _ ?_
          clear HK K
          (try simp only [Act.put, List.getElem_toArray, List.getElem_cons_succ, List.getElem_cons_zero, List.setIfInBounds_toArray, List.set_cons_succ, List.set_cons_zero])
          refine wpAny_ready (rs := [3]) (by kernel_rfl) (by simp) ?_
          refine AllReady.cons rfl (fun K hK0 => ?_) (AllReady.nil)
          have HK := Lib.hid hK0
          clear hK0
          go_simp
          refine HK.out _ _ ?_
          clear HK K
          (try simp only [Act.put, List.getElem_toArray, List.getElem_cons_succ, List.getElem_cons_zero, List.setIfInBounds_toArray, List.set_cons_succ, List.set_cons_zero])
          refine wpAny_take (i := 5) (v := ?_) rfl (by kernel_rfl) (by kernel_rfl) (by kernel_rfl) (fun _ _ _ h => h) (Or.inl ⟨by kernel_rfl, ?_⟩) ?_
          rotate_left
          · (intro W; go_simp; (try with_reducible rfl))
          (try simp only [Act.put, List.getElem_toArray, List.getElem_cons_succ, List.getElem_cons_zero, List.setIfInBounds_toArray, List.set_cons_succ, List.set_cons_zero])
          refine wpAny_ready (rs := [6]) (by kernel_rfl) (by simp) ?_
          refine AllReady.cons rfl (fun K hK0 => ?_) (AllReady.nil)
          have HK := Lib.hid hK0
          clear hK0
          go_simp
          refine HK.out _ _ ?_
          clear HK K
          (try simp only [Act.put, List.getElem_toArray, List.getElem_cons_succ, List.getElem_cons_zero, List.setIfInBounds_toArray, List.set_cons_succ, List.set_cons_zero])
          refine wpAny_ready (rs := [7]) (by kernel_rfl) (by simp) ?_
          refine AllReady.cons rfl (fun K hK0 => ?_) (AllReady.nil)
          have HK := Lib.hid hK0
          clear hK0
          go_simp
          have hblk7 := new_alloc hblk (.cells #[.int .i64 ov.a, .int .i64 ov.b, .int .i64 ov.c, .string ov.p, .bool oy, .slice ona ons.length onc] 39)
          refine HK.out _ _ ?_
          clear HK K
          (try simp only [Act.put, List.getElem_toArray, List.getElem_cons_succ, List.getElem_cons_zero, List.setIfInBounds_toArray, List.set_cons_succ, List.set_cons_zero])
          refine wpAny_ready (rs := [8]) (by kernel_rfl) (by simp) ?_
          refine AllReady.cons rfl (fun K hK0 => ?_) (AllReady.nil)
          have HK := Lib.hid hK0
          clear hK0
          refine step_append_ats (by rfl) (.tmp 40) (.tmp 46) 27 (by rfl) (w3.heap.size + 1) 39 i0' (.agg #[.int .i64 0, .int .i64 0, .int .i64 0, .string ⟨#[]⟩, .bool false, .slice none 0 0]) 6 72 Tryz.underlying27 hi hz0 hz1 hz2 rfl (by decide) (.slice va m vcap) m _ (by simp [Act.eval]) (HR5.out.alloc _) ⟨W5.heap.size, 0, none⟩ 1 1 [.int .i64 ov.a, .int .i64 ov.b, .int .i64 ov.c, .string ov.p, .bool oy, .slice ona ons.length onc] (by simp [Act.eval]) rfl (row6_at _ _ rfl _ _ _ _ _ _ _) (by intro u hu; simp at hu; rcases hu with rfl | rfl | rfl | rfl | rfl | rfl <;> rfl) (by unfold maxLen; omega) (by omega) (by simp; omega) ?_
          intro v8 w8 hown8 hg8 _
          obtain ⟨g8, cap8, hv8⟩ := Joins.ownsRow_form hown8 (by omega)
          subst hv8
          have hblk8 := (hg8.block w3.heap.size (by simp; omega) (fun e => by have := (HR5.out.lt _ e.symm).1; omega)).trans hblk7
          have HG8 := Lib.hid (⟨hown8, hg8⟩ : _ ∧ _)
          clear hown8 hg8
          refine HK.out _ _ ?_
          clear HK K
          (try simp only [Act.put, List.getElem_toArray, List.getElem_cons_succ, List.getElem_cons_zero, List.setIfInBounds_toArray, List.set_cons_succ, List.set_cons_zero])
          refine wpAny_take (i := 9) (v := ?_) rfl (by kernel_rfl) (by kernel_rfl) (by kernel_rfl) (fun _ _ _ h => h) (Or.inl ⟨by kernel_rfl, ?_⟩) ?_
          rotate_left
          · (intro W; go_simp; (try with_reducible rfl))
          (try simp only [Act.put, List.getElem_toArray, List.getElem_cons_succ, List.getElem_cons_zero, List.setIfInBounds_toArray, List.set_cons_succ, List.set_cons_zero])
          refine wpAny_ready (rs := [10]) (by kernel_rfl) (by simp) ?_
          refine AllReady.cons rfl (fun K hK0 => ?_) (AllReady.nil)
          have HK := Lib.hid hK0
          clear hK0
          have c8 := blk_cells hblk8 1
          have f8 := blk_free hblk8 1
          simp only [List.getElem?_toArray, List.getElem?_cons_zero, List.getElem?_cons_succ] at c8
          go_simp
          refine HK.out _ _ ?_
          clear HK K
          (try simp only [Act.put, List.getElem_toArray, List.getElem_cons_succ, List.getElem_cons_zero, List.setIfInBounds_toArray, List.set_cons_succ, List.set_cons_zero])
          refine wpAny_done (by kernel_rfl) ?_ _
          have HBl := Lib.hid hblk8
          clear c8 f8 hblk8 hblk7
          go_wp2
          go_meet
          case rel =>
            obtain ⟨hown8, hg8⟩ := HG8.out
            have hal := HB5.out.alloc HB5.out.size (.cells #[.int .i64 ov.a, .int .i64 ov.b, .int .i64 ov.c, .string ov.p, .bool oy, .slice ona ons.length onc] 39)
            have hgb := (hown8.lt g8 rfl).1
            refine ⟨.slice (some ⟨g8, 0, none⟩) (m + 1) cap8, ?_, ?_, ?_⟩
            · simpa using blk_setCell HBl.out 1 (.slice (some ⟨g8, 0, none⟩) (m + 1) cap8)
            · refine ownsRow_setCell_other ?_ (fun e => by injection e with e; simp only at e; omega) _
              rw [HRv.out, List.flatMap_append]
              exact hown8
            · exact (hal.grown hg8 hal.size (fun q hq => by have := (HR5.out.lt _ hq).1; omega)).setCell (Nat.le_refl _) _
        · have HK := Lib.hid hK0
          clear hK0
          go_simp
          refine HK.out _ _ ?_
          clear HK K
          (try simp only [Act.put, List.getElem_toArray, List.getElem_cons_succ, List.getElem_cons_zero, List.setIfInBounds_toArray, List.set_cons_succ, List.set_cons_zero])
          refine wpAny_take (i := 5) (v := ?_) rfl (by kernel_rfl) (by kernel_rfl) (by kernel_rfl) (fun _ _ _ h => h) (Or.inl ⟨by kernel_rfl, ?_⟩) ?_
          rotate_left
          · (intro W; go_simp; (try with_reducible rfl))
          (try simp only [Act.put, List.getElem_toArray, List.getElem_cons_succ, List.getElem_cons_zero, List.setIfInBounds_toArray, List.set_cons_succ, List.set_cons_zero])
          refine wpAny_ready (rs := [1, 6]) (by kernel_rfl) (by simp) ?_
          refine AllReady.cons rfl (fun K hK0 => ?_) (AllReady.cons rfl (fun K hK0 => ?_) (AllReady.nil))
          · have HK := Lib.hid hK0
            clear hK0
            go_simp
            refine HK.out _ _ ?_
            clear HK K
            (try simp only [Act.put, List.getElem_toArray, List.getElem_cons_succ, List.getElem_cons_zero, List.setIfInBounds_toArray, List.set_cons_succ, List.set_cons_zero])
            refine wpAny_ready (rs := [6]) (by kernel_rfl) (by simp) ?_
            refine AllReady.cons rfl (fun K hK0 => ?_) (AllReady.nil)
            have HK := Lib.hid hK0
            clear hK0
            go_simp
            refine HK.out _ _ ?_
            clear HK K
            (try simp only [Act.put, List.getElem_toArray, List.getElem_cons_succ, List.getElem_cons_zero, List.setIfInBounds_toArray, List.set_cons_succ, List.set_cons_zero])
            refine wpAny_ready (rs := [7]) (by kernel_rfl) (by simp) ?_
            refine AllReady.cons rfl (fun K hK0 => ?_) (AllReady.nil)
            have HK := Lib.hid hK0
            clear hK0
            go_simp
            have hblk7 := new_alloc hblk (.cells #[.int .i64 ov.a, .int .i64 ov.b, .int .i64 ov.c, .string ov.p, .bool oy, .slice ona ons.length onc] 39)
            refine HK.out _ _ ?_
            clear HK K
            (try simp only [Act.put, List.getElem_toArray, List.getElem_cons_succ, List.getElem_cons_zero, List.setIfInBounds_toArray, List.set_cons_succ, List.set_cons_zero])
            refine wpAny_ready (rs := [8]) (by kernel_rfl) (by simp) ?_
            refine AllReady.cons rfl (fun K hK0 => ?_) (AllReady.nil)
            have HK := Lib.hid hK0
            clear hK0
            refine step_append_ats (by rfl) (.tmp 40) (.tmp 46) 27 (by rfl) (w3.heap.size + 1) 39 i0' (.agg #[.int .i64 0, .int .i64 0, .int .i64 0, .string ⟨#[]⟩, .bool false, .slice none 0 0]) 6 72 Tryz.underlying27 hi hz0 hz1 hz2 rfl (by decide) (.slice va m vcap) m _ (by simp [Act.eval]) (HR5.out.alloc _) ⟨W5.heap.size, 0, none⟩ 1 1 [.int .i64 ov.a, .int .i64 ov.b, .int .i64 ov.c, .string ov.p, .bool oy, .slice ona ons.length onc] (by simp [Act.eval]) rfl (row6_at _ _ rfl _ _ _ _ _ _ _) (by intro u hu; simp at hu; rcases hu with rfl | rfl | rfl | rfl | rfl | rfl <;> rfl) (by unfold maxLen; omega) (by omega) (by simp; omega) ?_
            intro v8 w8 hown8 hg8 _
            obtain ⟨g8, cap8, hv8⟩ := Joins.ownsRow_form hown8 (by omega)
            subst hv8
            have hblk8 := (hg8.block w3.heap.size (by simp; omega) (fun e => by have := (HR5.out.lt _ e.symm).1; omega)).trans hblk7
            have HG8 := Lib.hid (⟨hown8, hg8⟩ : _ ∧ _)
            clear hown8 hg8
            refine HK.out _ _ ?_
            clear HK K
            (try simp only [Act.put, List.getElem_toArray, List.getElem_cons_succ, List.getElem_cons_zero, List.setIfInBounds_toArray, List.set_cons_succ, List.set_cons_zero])
            refine wpAny_take (i := 9) (v := ?_) rfl (by kernel_rfl) (by kernel_rfl) (by kernel_rfl) (fun _ _ _ h => h) (Or.inl ⟨by kernel_rfl, ?_⟩) ?_
            rotate_left
            · (intro W; go_simp; (try with_reducible rfl))
            (try simp only [Act.put, List.getElem_toArray, List.getElem_cons_succ, List.getElem_cons_zero, List.setIfInBounds_toArray, List.set_cons_succ, List.set_cons_zero])
            refine wpAny_ready (rs := [10]) (by kernel_rfl) (by simp) ?_
            refine AllReady.cons rfl (fun K hK0 => ?_) (AllReady.nil)
            have HK := Lib.hid hK0
            clear hK0
            have c8 := blk_cells hblk8 1
            have f8 := blk_free hblk8 1
            simp only [List.getElem?_toArray, List.getElem?_cons_zero, List.getElem?_cons_succ] at c8
            go_simp
            refine HK.out _ _ ?_
            clear HK K
            (try simp only [Act.put, List.getElem_toArray, List.getElem_cons_succ, List.getElem_cons_zero, List.setIfInBounds_toArray, List.set_cons_succ, List.set_cons_zero])
            refine wpAny_done (by kernel_rfl) ?_ _
            have HBl := Lib.hid hblk8
            clear c8 f8 hblk8 hblk7
            go_wp2
            go_meet
            case rel =>
              obtain ⟨hown8, hg8⟩ := HG8.out
              have hal := HB5.out.alloc HB5.out.size (.cells #[.int .i64 ov.a, .int .i64 ov.b, .int .i64 ov.c, .string ov.p, .bool oy, .slice ona ons.length onc] 39)
              have hgb := (hown8.lt g8 rfl).1
              refine ⟨.slice (some ⟨g8, 0, none⟩) (m + 1) cap8, ?_, ?_, ?_⟩
              · simpa using blk_setCell HBl.out 1 (.slice (some ⟨g8, 0, none⟩) (m + 1) cap8)
              · refine ownsRow_setCell_other ?_ (fun e => by injection e with e; simp only at e; omega) _
                rw [HRv.out, List.flatMap_append]
                exact hown8
              · exact (hal.grown hg8 hal.size (fun q hq => by have := (HR5.out.lt _ hq).1; omega)).setCell (Nat.le_refl _) _
          · have HK := Lib.hid hK0
            clear hK0
            go_simp
            refine HK.out _ _ ?_
            clear HK K
            (try simp only [Act.put, List.getElem_toArray, List.getElem_cons_succ, List.getElem_cons_zero, List.setIfInBounds_toArray, List.set_cons_succ, List.set_cons_zero])
            refine wpAny_ready (rs := [1, 7]) (by kernel_rfl) (by simp) ?_
            refine AllReady.cons rfl (fun K hK0 => ?_) (AllReady.cons rfl (fun K hK0 => ?_) (AllReady.nil))
            · have HK := Lib.hid hK0
              clear hK0
              go_simp
              refine HK.out _ _ ?_
              clear HK K
              (try simp only [Act.put, List.getElem_toArray, List.getElem_cons_succ, List.getElem_cons_zero, List.setIfInBounds_toArray, List.set_cons_succ, List.set_cons_zero])
              refine wpAny_ready (rs := [7]) (by kernel_rfl) (by simp) ?_
              refine AllReady.cons rfl (fun K hK0 => ?_) (AllReady.nil)
              have HK := Lib.hid hK0
              clear hK0
              go_simp
              have hblk7 := new_alloc hblk (.cells #[.int .i64 ov.a, .int .i64 ov.b, .int .i64 ov.c, .string ov.p, .bool oy, .slice ona ons.length onc] 39)
              refine HK.out _ _ ?_
              clear HK K
              (try simp only [Act.put, List.getElem_toArray, List.getElem_cons_succ, List.getElem_cons_zero, List.setIfInBounds_toArray, List.set_cons_succ, List.set_cons_zero])
              refine wpAny_ready (rs := [8]) (by kernel_rfl) (by simp) ?_
              refine AllReady.cons rfl (fun K hK0 => ?_) (AllReady.nil)
              have HK := Lib.hid hK0
              clear hK0
              refine step_append_ats (by rfl) (.tmp 40) (.tmp 46) 27 (by rfl) (w3.heap.size + 1) 39 i0' (.agg #[.int .i64 0, .int .i64 0, .int .i64 0, .string ⟨#[]⟩, .bool false, .slice none 0 0]) 6 72 Tryz.underlying27 hi hz0 hz1 hz2 rfl (by decide) (.slice va m vcap) m _ (by simp [Act.eval]) (HR5.out.alloc _) ⟨W5.heap.size, 0, none⟩ 1 1 [.int .i64 ov.a, .int .i64 ov.b, .int .i64 ov.c, .string ov.p, .bool oy, .slice ona ons.length onc] (by simp [Act.eval]) rfl (row6_at _ _ rfl _ _ _ _ _ _ _) (by intro u hu; simp at hu; rcases hu with rfl | rfl | rfl | rfl | rfl | rfl <;> rfl) (by unfold maxLen; omega) (by omega) (by simp; omega) ?_
              intro v8 w8 hown8 hg8 _
              obtain ⟨g8, cap8, hv8⟩ := Joins.ownsRow_form hown8 (by omega)
              subst hv8
              have hblk8 := (hg8.block w3.heap.size (by simp; omega) (fun e => by have := (HR5.out.lt _ e.symm).1; omega)).trans hblk7
              have HG8 := Lib.hid (⟨hown8, hg8⟩ : _ ∧ _)
              clear hown8 hg8
              refine HK.out _ _ ?_
              clear HK K
              (try simp only [Act.put, List.getElem_toArray, List.getElem_cons_succ, List.getElem_cons_zero, List.setIfInBounds_toArray, List.set_cons_succ, List.set_cons_zero])
              refine wpAny_take (i := 9) (v := ?_) rfl (by kernel_rfl) (by kernel_rfl) (by kernel_rfl) (fun _ _ _ h => h) (Or.inl ⟨by kernel_rfl, ?_⟩) ?_
              rotate_left
              · (intro W; go_simp; (try with_reducible rfl))
              (try simp only [Act.put, List.getElem_toArray, List.getElem_cons_succ, List.getElem_cons_zero, List.setIfInBounds_toArray, List.set_cons_succ, List.set_cons_zero])
              refine wpAny_ready (rs := [10]) (by kernel_rfl) (by simp) ?_
              refine AllReady.cons rfl (fun K hK0 => ?_) (AllReady.nil)
              have HK := Lib.hid hK0
              clear hK0
              have c8 := blk_cells hblk8 1
              have f8 := blk_free hblk8 1
              simp only [List.getElem?_toArray, List.getElem?_cons_zero, List.getElem?_cons_succ] at c8
              go_simp
              refine HK.out _ _ ?_
              clear HK K
              (try simp only [Act.put, List.getElem_toArray, List.getElem_cons_succ, List.getElem_cons_zero, List.setIfInBounds_toArray, List.set_cons_succ, List.set_cons_zero])
              refine wpAny_done (by kernel_rfl) ?_ _
              have HBl := Lib.hid hblk8
              clear c8 f8 hblk8 hblk7
              go_wp2
              go_meet
              case rel =>
                obtain ⟨hown8, hg8⟩ := HG8.out
                have hal := HB5.out.alloc HB5.out.size (.cells #[.int .i64 ov.a, .int .i64 ov.b, .int .i64 ov.c, .string ov.p, .bool oy, .slice ona ons.length onc] 39)
                have hgb := (hown8.lt g8 rfl).1
                refine ⟨.slice (some ⟨g8, 0, none⟩) (m + 1) cap8, ?_, ?_, ?_⟩
                · simpa using blk_setCell HBl.out 1 (.slice (some ⟨g8, 0, none⟩) (m + 1) cap8)
                · refine ownsRow_setCell_other ?_ (fun e => by injection e with e; simp only at e; omega) _
                  rw [HRv.out, List.flatMap_append]
                  exact hown8
                · exact (hal.grown hg8 hal.size (fun q hq => by have := (HR5.out.lt _ hq).1; omega)).setCell (Nat.le_refl _) _
            · have HK := Lib.hid hK0
              clear hK0
              go_simp
              have hblk7 := new_alloc hblk (.cells #[.int .i64 ov.a, .int .i64 ov.b, .int .i64 ov.c, .string ov.p, .bool oy, .slice ona ons.length onc] 39)
              refine HK.out _ _ ?_
              clear HK K
              (try simp only [Act.put, List.getElem_toArray, List.getElem_cons_succ, List.getElem_cons_zero, List.setIfInBounds_toArray, List.set_cons_succ, List.set_cons_zero])
              refine wpAny_ready (rs := [1]) (by kernel_rfl) (by simp) ?_
              refine AllReady.cons rfl (fun K hK0 => ?_) (AllReady.nil)
              have HK := Lib.hid hK0
              clear hK0
              have f7 := blk_cells hblk7 1
              simp only [List.getElem?_toArray, List.getElem?_cons_zero, List.getElem?_cons_succ] at f7
              go_simp
              refine HK.out _ _ ?_
              clear HK K
              (try simp only [Act.put, List.getElem_toArray, List.getElem_cons_succ, List.getElem_cons_zero, List.setIfInBounds_toArray, List.set_cons_succ, List.set_cons_zero])
              refine wpAny_ready (rs := [8]) (by kernel_rfl) (by simp) ?_
              refine AllReady.cons rfl (fun K hK0 => ?_) (AllReady.nil)
              have HK := Lib.hid hK0
              clear hK0
              refine step_append_ats (by rfl) (.tmp 40) (.tmp 46) 27 (by rfl) (w3.heap.size + 1) 39 i0' (.agg #[.int .i64 0, .int .i64 0, .int .i64 0, .string ⟨#[]⟩, .bool false, .slice none 0 0]) 6 72 Tryz.underlying27 hi hz0 hz1 hz2 rfl (by decide) (.slice va m vcap) m _ (by simp [Act.eval]) (HR5.out.alloc _) ⟨W5.heap.size, 0, none⟩ 1 1 [.int .i64 ov.a, .int .i64 ov.b, .int .i64 ov.c, .string ov.p, .bool oy, .slice ona ons.length onc] (by simp [Act.eval]) rfl (row6_at _ _ rfl _ _ _ _ _ _ _) (by intro u hu; simp at hu; rcases hu with rfl | rfl | rfl | rfl | rfl | rfl <;> rfl) (by unfold maxLen; omega) (by omega) (by simp; omega) ?_
              intro v8 w8 hown8 hg8 _
              obtain ⟨g8, cap8, hv8⟩ := Joins.ownsRow_form hown8 (by omega)
              subst hv8
              have hblk8 := (hg8.block w3.heap.size (by simp; omega) (fun e => by have := (HR5.out.lt _ e.symm).1; omega)).trans hblk7
              have HG8 := Lib.hid (⟨hown8, hg8⟩ : _ ∧ _)
              clear hown8 hg8
              refine HK.out _ _ ?_
              clear HK K
              (try simp only [Act.put, List.getElem_toArray, List.getElem_cons_succ, List.getElem_cons_zero, List.setIfInBounds_toArray, List.set_cons_succ, List.set_cons_zero])
              refine wpAny_take (i := 9) (v := ?_) rfl (by kernel_rfl) (by kernel_rfl) (by kernel_rfl) (fun _ _ _ h => h) (Or.inl ⟨by kernel_rfl, ?_⟩) ?_
              rotate_left
              · (intro W; go_simp; (try with_reducible rfl))
              (try simp only [Act.put, List.getElem_toArray, List.getElem_cons_succ, List.getElem_cons_zero, List.setIfInBounds_toArray, List.set_cons_succ, List.set_cons_zero])
              refine wpAny_ready (rs := [10]) (by kernel_rfl) (by simp) ?_
              refine AllReady.cons rfl (fun K hK0 => ?_) (AllReady.nil)
              have HK := Lib.hid hK0
              clear hK0
              have c8 := blk_cells hblk8 1
              have f8 := blk_free hblk8 1
              simp only [List.getElem?_toArray, List.getElem?_cons_zero, List.getElem?_cons_succ] at c8
              go_simp
              refine HK.out _ _ ?_
              clear HK K
              (try simp only [Act.put, List.getElem_toArray, List.getElem_cons_succ, List.getElem_cons_zero, List.setIfInBounds_toArray, List.set_cons_succ, List.set_cons_zero])
              refine wpAny_done (by kernel_rfl) ?_ _
              have HBl := Lib.hid hblk8
              clear c8 f8 hblk8 hblk7
              go_wp2
              go_meet
              case rel =>
                obtain ⟨hown8, hg8⟩ := HG8.out
                have hal := HB5.out.alloc HB5.out.size (.cells #[.int .i64 ov.a, .int .i64 ov.b, .int .i64 ov.c, .string ov.p, .bool oy, .slice ona ons.length onc] 39)
                have hgb := (hown8.lt g8 rfl).1
                refine ⟨.slice (some ⟨g8, 0, none⟩) (m + 1) cap8, ?_, ?_, ?_⟩
                · simpa using blk_setCell HBl.out 1 (.slice (some ⟨g8, 0, none⟩) (m + 1) cap8)
                · refine ownsRow_setCell_other ?_ (fun e => by injection e with e; simp only at e; omega) _
                  rw [HRv.out, List.flatMap_append]
                  exact hown8
                · exact (hal.grown hg8 hal.size (fun q hq => by have := (HR5.out.lt _ hq).1; omega)).setCell (Nat.le_refl _) _
      case rest =>
        have HOc := Lib.hid hcut
        obtain ⟨v', hblk', hrw', hbw'⟩ := hcut
        have hw7 : Below w.heap.size w wc := HB3.out.trans (hbw'.mono HB3.out.size)
        have HW7 := Lib.hid hw7
        have p1 := (hbw'.cell (p := ⟨w.heap.size, 1, none⟩) hzw).trans HG1.out
        have HP1 := Lib.hid p1
        clear hblk' hrw' hbw' hw7 p1 y0 y1 y2 y3 y4 y5 g1 hzb
        go_wp2_with fail
        go_loopw [9, 11] (fun b j wy => OrdIn os m k wc b j wy) (fun _ j _ => k - (intOf j).toNat)
        case atStart => exact ⟨0, c, Nat.zero_le _, rfl, rfl, fun h => ⟨HAp.out h, fun i x y hi => absurd hi (Nat.not_lt_zero _)⟩, Below.refl _ _⟩
        case round =>
          obtain ⟨j, c', hj, rfl, rfl, hap2, hb3⟩ := hrel
          have hb5 := below_then HW7.out hb3
          have HA2 := Lib.hid hap2
          have p1 := cell_on HP1.out hb3
          have y1 := cell_lt p1
          clear hap2
          by_cases hlt2 : j < k
          · have j0 : (0 : Int) ≤ (j : Int) := by omega
            have j1 : (j : Int) < (k : Int) := by omega
            have j2 : (j : Int) < (os.length : Int) := by omega
            have hlj : j < os.length := by omega
            obtain ⟨by', oy', he, hby, c0, c1, c2, c3, _, _⟩ := HO.out.1.at' hb5 hlj
            injection he with he
            injection he with he1 he2
            subst he1 he2
            obtain ⟨by2, oy2, he, _, d0, d1, d2, d3, _, _⟩ := HO.out.1.at' hb5 hkl
            injection he with he
            injection he with he1 he2
            subst he1 he2
            rw [HX.out] at d0 d1 d2 d3
            obtain ⟨⟨xv, xy, xs, xa', xc'⟩, hxe2⟩ : ∃ x, os[j] = x := ⟨_, rfl⟩
            rw [hxe2] at c0 c1 c2 c3
            simp only at c0 c1 c2 c3 d0 d1 d2 d3
            obtain ⟨r, hr⟩ : ∃ r, decide (xv.a = ov.a ∧ xv.b = ov.b ∧ xv.c = ov.c ∧ xv.p = ov.p) = r := ⟨_, rfl⟩
            have r1 := fun W => ver_eq xv.a xv.b xv.c xv.p ov.a ov.b ov.c ov.p r hr.symm W
            have HX2 := Lib.hid (⟨hxe2, hr⟩ : _ ∧ _)
            clear hxe2 hr hxe
            cases c'
            · go_wp2_with fail
              go_quiet (fail)
              go_wp2_with fail
              go_roundw
              case rel => exact ⟨j + 1, false, hlt2, rfl, by go_num, (fun h => by cases h), below_drewN hb3 _⟩
              case measure => simp [intOf]; omega
            · cases r
              · go_wp2_with fail
                go_quiet (fail)
                go_wp2_with fail
                go_roundw
                case rel =>
                  refine ⟨j + 1, true, hlt2, rfl, by go_num, fun _ => ⟨(HA2.out (by trivial)).1, fun i x y hi hx hy hxy => ?_⟩, below_drewN hb3 _⟩
                  rcases Nat.lt_succ_iff_lt_or_eq.1 hi with h | rfl
                  · exact (HA2.out (by trivial)).2 i x y h hx hy hxy
                  · rw [List.getElem?_eq_getElem hlj, HX2.out.1] at hx
                    rw [List.getElem?_eq_getElem hkl, HX.out] at hy
                    injection hx with hx
                    injection hy with hy
                    subst hx hy
                    have := of_decide_eq_false HX2.out.2
                    simp only at hxy
                    subst hxy
                    exact this ⟨rfl, rfl, rfl, rfl⟩
                case measure => simp [intOf]; omega
              · go_wp2_with fail
                go_quiet (fail)
                go_wp2_with fail
                go_roundw
                case rel => exact ⟨j + 1, false, hlt2, rfl, by go_num, (fun h => by cases h), below_drewN hb3 _⟩
                case measure => simp [intOf]; omega
          · obtain rfl : j = k := by omega
            have HRl := Lib.hid (HOc.out.on hb3)
            clear hxe
            go_wp2_with fail
            go_roundw
            case rel => exact ⟨m + 1, c', by have := HK.out; omega, rfl, by rw [← HE3.out], fun h => (HA2.out h).1.next HK.out (HA2.out h).2, HRl.out⟩
            case measure => have := HK.out; simp [intOf]
    · obtain rfl : m = os.length := by omega
      have e1 : (os.length : Int) - (os.length : Int) - 1 = -1 := by omega
      rw [e1]
      obtain ⟨w5, rfl⟩ : ∃ x, x = wr := ⟨_, rfl⟩
      have h0 := blk_cells HBk.out 0
      have h1 := blk_cells HBk.out 1
      simp only [List.getElem?_toArray, List.getElem?_cons_zero, List.getElem?_cons_succ] at h0 h1
      have hz5 := cell_lt h0
      have hw5 : Below w.heap.size w w5 := HB3.out.trans (HBw.out.mono HB3.out.size)
      have HW5 := Lib.hid hw5
      have hrw5 : ORow w5 (.slice va os.length vcap) os.reverse := by
        have h := Row.of_owns HRw.out
        rw [List.take_of_length_le (by simp)] at h
        have e : os.reverse.length = os.length := List.length_reverse
        unfold ORow; rw [e]; exact h
      have hos5 : Offs w5 (.slice va os.length vcap) os.reverse := ⟨hrw5, fun o ho => (HO.out.2 o (List.mem_reverse.1 ho)).below hw5 (Nat.le_refl _)⟩
      have HOt := Lib.hid (offers_any nm _ os.reverse _ lock _ needs w5 hos5 (HL.out.below hw5 (Nat.le_refl _)) (HN.out.below hw5 (Nat.le_refl _)) (HE.out.below hw5) (by rw [List.length_reverse]; exact hosx) (fun o ho => (HSm.out.pack.2 o (List.mem_reverse.1 ho)).pre) HSm.out.nd.bounds)
      have HR5 := Lib.hid (HRo.out.below HBw.out (Nat.le_refl _))
      have hoo : out.length ≤ 1000000 := Nat.le_trans HCh.out.len hosx
      have HOk : Hid (∀ W, Below w.heap.size w W → ∀ o ∈ out, o.ok W) := fun W hW o ho => by
        rcases selL_sub _ _ (HCh.out.1.mem_iff.1 ho) with h' | h'
        · cases h'
        · exact (HO.out.2 o h').below hW (Nat.le_refl _)
      clear hlt e1 hw5 hrw5 hos5 hm
      go_upto_region 14 with fail
      go_cut [79] (fun x wx => x = .bool false ∧ Below w5.heap.size w5 wx)
      case first =>
        cases c
        · go_wp2_with fail
          go_meet
          case rel => exact ⟨rfl, Below.refl _ _⟩
        · have HCt := Lib.hid (ChoiceIs.turned (HAp.out rfl).all HCh.out)
          go_wp2_with fail
          refine HOt.out.mono ?_
          rintro e w6 ⟨y, out', rfl, hch, hrow, hk6, _⟩
          obtain ⟨_, ya, yc, rfl⟩ := hrow.len
          obtain rfl := hch.uniq HCt.out
          have hb6 := below_then HW5.out hk6
          have HSs := Lib.hid (rsameO_any _ _ out' out' _ ⟨hrow, HOk.out _ hb6⟩ ⟨HR5.out.below hk6 (Nat.le_refl _), HOk.out _ hb6⟩ rfl (fun k h h' => SimO.refl _) hoo)
          clear hch hrow h0 h1
          go_wp2_with fail
          refine HSs.out.mono ?_
          rintro e w7 ⟨rfl, hk7⟩
          have hk8 := below_then hk6 hk7
          go_wp2_with fail
          go_meet
          case rel => exact ⟨rfl, hk8⟩
      case rest =>
        obtain ⟨rfl, hbc⟩ := hcut
        obtain ⟨wA, rfl⟩ : ∃ x, x = wc := ⟨_, rfl⟩
        have hw7 := below_then HW5.out hbc
        have HW7 := Lib.hid hw7
        have HP0 := Lib.hid (show wA.cell? ⟨w.heap.size, 0, none⟩ = some (.string nm) from cell_on ((HBw.out.cell (p := ⟨w.heap.size, 0, none⟩) hzw).trans HG0.out) hbc)
        have HR7 := Lib.hid (HR5.out.below hbc (Nat.le_refl _))
        have HL7 := Lib.hid (HL.out.below hw7 (Nat.le_refl _))
        have HN7 := Lib.hid (HN.out.below hw7 (Nat.le_refl _))
        clear hbc hw7 h0 h1 hz5
        go_wp2_with fail
        go_loopw [12] (fun i wy => OrdCt out.length wA i wy) (fun i _ => out.length - (intOf i).toNat)
        case atStart => exact ⟨0, Nat.zero_le _, rfl, Below.refl _ _⟩
        case round =>
          obtain ⟨k, hk, rfl, hb⟩ := hrel
          by_cases hlt : k < out.length
          · have i0 : (0 : Int) ≤ (k : Int) := by omega
            have i1 : (k : Int) < (out.length : Int) := by omega
            have hmem := HCh.out.1.mem_iff.1 (List.getElem_mem hlt)
            have hft := sel_ok.1 _ hmem
            have hpre : out[k].v.p.size ≤ 300 := by
              rcases selL_sub _ _ hmem with h' | h'
              · cases h'
              · exact (HSm.out.pack.2 _ h').pre
            obtain ⟨⟨ov, oy, ons, ona, onc⟩, hxe⟩ : ∃ x, out[k] = x := ⟨_, rfl⟩
            obtain ⟨bo, oo, rfl, hbo, c0, c1, c2, c3, c4, c5⟩ := HR7.out.at' hb hlt
            rw [hxe] at hft hpre c0 c1 c2 c3 c4 c5
            simp only at hft hpre c0 c1 c2 c3 c4 c5
            obtain ⟨⟨hok, hyl⟩, hnd⟩ := fit_split.1 hft
            simp only at hok hyl hnd
            have HOk2 := Lib.hid (⟨hok, hyl, hnd⟩ : _ ∧ _ ∧ _)
            have HC := Lib.hid (⟨c0, c1, c2, c3, c4⟩ : _ ∧ _ ∧ _ ∧ _ ∧ _)
            obtain ⟨w9, rfl⟩ : ∃ x, x = wr := ⟨_, rfl⟩
            have HB9 := Lib.hid hb
            clear hxe hft hok hyl hnd hmem c5 hb
            go_wp2_with fail
            go_loopw [13, 14] (fun b j wy => OrdKp lock nm ov w9 b j wy) (fun _ j _ => lock.length - (intOf j).toNat)
            case atStart => exact ⟨0, false, Nat.zero_le _, rfl, rfl, rfl, Below.refl _ _⟩
            case round =>
              obtain ⟨j, c, hj, rfl, rfl, hcc, hb⟩ := hrel
              have HCc := Lib.hid hcc
              obtain ⟨d0, d1, d2, d3, d4⟩ := HC.out
              have d0 := cell_on d0 hb
              have d1 := cell_on d1 hb
              have d2 := cell_on d2 hb
              have d3 := cell_on d3 hb
              have d4 := cell_on d4 hb
              have hb5 := below_then HB9.out hb
              have p0 := cell_on HP0.out hb5
              have hzp := cell_lt p0
              clear hcc c0 c1 c2 c3 c4
              by_cases hlt2 : j < lock.length
              · have j0 : (0 : Int) ≤ (j : Int) := by omega
                have j1 : (j : Int) < (lock.length : Int) := by omega
                obtain ⟨bl, ol, rfl, hbl, l0, l1, l2, l3, l4⟩ := piks_at (HL7.out.below hb5 (Nat.le_refl _)) hlt2
                have HT := Lib.hid (List.take_succ_eq_append_getElem hlt2)
                obtain ⟨⟨ln, lv⟩, hle⟩ : ∃ x, lock[j] = x := ⟨_, rfl⟩
                rw [hle] at l0 l1 l2 l3 l4 HT
                simp only at l0 l1 l2 l3 l4
                obtain ⟨eq, heq⟩ : ∃ b, (ln.toList == nm.toList) = b := ⟨_, rfl⟩
                obtain ⟨r, hr⟩ : ∃ r, decide (lv.a = ov.a ∧ lv.b = ov.b ∧ lv.c = ov.c ∧ lv.p = ov.p) = r := ⟨_, rfl⟩
                have r1 := fun W => ver_eq lv.a lv.b lv.c lv.p ov.a ov.b ov.c ov.p r hr.symm W
                have HLb : Hid (lockB nm ov ⟨ln, lv⟩ = (eq && r)) := by
                  show _ = _
                  unfold lockB
                  rw [← heq, ← hr, Lib.toList_data, Lib.toList_data]
                  by_cases h : ln = nm
                  · subst h; simp
                  · have : ¬ ln.data.toList = nm.data.toList := fun e => h (ByteArray.ext (Array.toList_inj.1 e))
                    have e1 : (ln.data.toList == nm.data.toList) = false := beq_eq_false_iff_ne.2 this
                    rw [e1, Bool.false_and]
                    exact decide_eq_false fun hh => h hh.1
                have HNx : Hid (∀ c', c' = (c || (eq && r)) → c' = (lock.take (j + 1)).any (lockB nm ov)) := by
                  show ∀ _, _
                  intro c' h
                  rw [HT.out, List.any_append, ← HCc.out, h]
                  simp [HLb.out]
                clear hle hr
                cases c
                · cases eq
                  · go_wp2_with fail
                    go_quiet (fail)
                    go_wp2_with fail
                    go_roundw
                    case rel => exact ⟨j + 1, false, hlt2, rfl, by go_num, HNx.out _ rfl, below_drewN hb _⟩
                    case measure => simp [intOf]; omega
                  · cases r
                    · go_wp2_with fail
                      go_quiet (fail)
                      go_wp2_with fail
                      go_roundw
                      case rel => exact ⟨j + 1, false, hlt2, rfl, by go_num, HNx.out _ rfl, below_drewN hb _⟩
                      case measure => simp [intOf]; omega
                    · go_wp2_with fail
                      go_quiet (fail)
                      go_wp2_with fail
                      go_roundw
                      case rel => exact ⟨j + 1, true, hlt2, rfl, by go_num, HNx.out _ rfl, below_drewN hb _⟩
                      case measure => simp [intOf]; omega
                · go_wp2_with fail
                  go_quiet (fail)
                  go_wp2_with fail
                  go_roundw
                  case rel => exact ⟨j + 1, true, hlt2, rfl, by go_num, HNx.out _ rfl, below_drewN hb _⟩
                  case measure => simp [intOf]; omega
              · have j5 : decide (j < lock.length) = false := decide_eq_false hlt2
                have hcl : c = lockedB lock nm ov := by
                  have := HCc.out
                  rw [List.take_of_length_le (by omega)] at this
                  exact this
                have hyc : oy = true → c = true := fun h => by
                  have := HOk2.out.2.1
                  rw [h, ← hcl] at this
                  simpa using this
                have HCk := Lib.hid (checkO_as ov 0 (by rw [HOk2.out.1]; rfl) wr (HE.out.below (below_then HW7.out hb5)) hpre)
                have HC5 := Lib.hid (⟨d0, d1, d2, d3⟩ : _ ∧ _ ∧ _ ∧ _)
                have HYc := Lib.hid hyc
                clear hlt2 hcl hyc
                go_upto_region 24 with fail
                go_cut [133] (fun x wx => x = .bool false ∧ Below wr.heap.size wr wx)
                case first =>
                  cases oy
                  · go_wp2_with fail
                    refine HCk.out.mono ?_
                    rintro e w10 ⟨rfl, hk10⟩
                    go_wp2_with fail
                    go_meet
                    case rel => exact ⟨rfl, hk10⟩
                  · obtain rfl : c = true := HYc.out rfl
                    go_wp2_with fail
                    refine HCk.out.mono ?_
                    rintro e w10 ⟨rfl, hk10⟩
                    go_wp2_with fail
                    go_meet
                    case rel => exact ⟨rfl, hk10⟩
                case rest =>
                  obtain ⟨rfl, hbc2⟩ := hcut
                  obtain ⟨wB, rfl⟩ : ∃ x, x = wc := ⟨_, rfl⟩
                  obtain ⟨w8, rfl⟩ : ∃ x, x = wr := ⟨_, rfl⟩
                  have hb8 := below_then hb5 hbc2
                  have HB8 := Lib.hid hb8
                  have HP8 := Lib.hid (cell_on p0 hbc2)
                  have HC8 := Lib.hid (⟨cell_on d0 hbc2, cell_on d1 hbc2, cell_on d2 hbc2, cell_on d3 hbc2⟩ : _ ∧ _ ∧ _ ∧ _)
                  have HX8 := Lib.hid (below_then hb hbc2)
                  clear d0 d1 d2 d3 d4 p0 hzp hbc2 hb hb5 hb8
                  go_wp2_with fail
                  go_loopw [15] (fun i wy => OrdCt needs.length wB i wy) (fun i _ => needs.length - (intOf i).toNat)
                  case atStart => exact ⟨0, Nat.zero_le _, rfl, Below.refl _ _⟩
                  case round =>
                    obtain ⟨z, hz, rfl, hb⟩ := hrel
                    have hbA := below_then HB9.out (below_then HX8.out hb)
                    by_cases hlt3 : z < needs.length
                    · have z0 : (0 : Int) ≤ (z : Int) := by omega
                      have z1 : (z : Int) < (needs.length : Int) := by omega
                      obtain ⟨bn, on', rfl, hbn, n0, n1⟩ := HN7.out.at' hbA hlt3
                      have hmem := List.getElem_mem hlt3
                      have hok := HOk2.out.2.2 _ hmem
                      have hnb := HSm.out.nd.bounds _ hmem
                      have hrv := HN7.out.2 _ hmem
                      obtain ⟨⟨xn, xv⟩, hxe⟩ : ∃ x, needs[z] = x := ⟨_, rfl⟩
                      rw [hxe] at n0 n1 hok hnb hrv
                      obtain ⟨hbn2, ra, rcap, hrv⟩ := hrv
                      simp only at n0 n1 hok hnb hrv hbn2
                      subst hrv
                      have p0 := cell_on HP8.out hb
                      have hzp := cell_lt p0
                      obtain ⟨c0, c1, c2, c3⟩ := HC8.out
                      have c0 := cell_on c0 hb
                      have c1 := cell_on c1 hb
                      have c2 := cell_on c2 hb
                      have c3 := cell_on c3 hb
                      obtain ⟨eq, heq⟩ : ∃ b, ((S xn.name).toList == nm.toList) = b := ⟨_, rfl⟩
                      cases eq
                      · clear hok hnb hbn2 hxe
                        go_wp2_with fail
                        go_quiet (fail)
                        go_wp2_with fail
                        go_roundw
                        case rel => exact ⟨z + 1, hlt3, by go_num, below_drewN hb _⟩
                        case measure => simp [intOf]; omega
                      · have hmt : meetsR ov xn.bs = true := by
                          have h1 : xn.name = nm.data.toList := by have := eq_of_beq heq; rwa [S_toList, Lib.toList_data] at this
                          unfold needOk at hok
                          simpa [h1] using hok
                        have hd := (Below.refl wr.heap.size wr).drew
                        have hst : OlS bn (on' + z * 2) bo (oo + k * 6) w.heap.size xn.name (.slice ra xn.bs.length rcap) ov nm wr.drew wr.drew :=
                          ⟨⟨cell_on n0 hd, cell_on n1 hd⟩, ⟨cell_on c0 hd, cell_on c1 hd, cell_on c2 hd, cell_on c3 hd⟩, cell_on p0 hd, Below.refl _ _⟩
                        have HMt : Hid (∀ W, Below wr.drew.heap.size wr.drew W → Calls Tryz.prog 23 #[.agg #[.int .i64 ov.a, .int .i64 ov.b, .int .i64 ov.c, .string ov.p], .slice ra xn.bs.length rcap] W fun e w' => e = .returned (.bool true) ∧ Below W.heap.size W w') := fun W hW =>
                          meetsO_as ov _ xn.bs true hmt W (hbn2.below (below_then hbA (hd.trans (hW.mono hd.size))) (Nat.le_refl _)) ⟨_, _, rfl⟩ (HE.out.below (below_then HW7.out (below_then hbA (hd.trans (hW.mono hd.size))))) hpre hnb.2 hnb.1
                        clear hok hnb hbn2 hxe hmt n0 n1 c0 c1 c2 c3 p0
                        go_wp2_with fail
                        refine wp_region_held_drew (S := (fun W => OlS bn (on' + z * 2) bo (oo + k * 6) w.heap.size xn.name (.slice ra xn.bs.length rcap) ov nm wr.drew W)) (by kernel_rfl) (hst) (fun hHeld => ?_)
                        refine wpAnyH_take (i := 0) (v := ?_) rfl (by kernel_rfl) (by kernel_rfl) (by kernel_rfl) (fun _ _ _ h => h) (Or.inl ⟨by kernel_rfl, ?_⟩) hHeld ?_
                        rotate_left
                        · (rintro W ⟨⟨e0, e1⟩, ⟨e2, e3, e4, e5⟩, e6, _⟩; go_simp; (try with_reducible rfl))
                        (try simp only [Act.put, List.getElem_toArray, List.getElem_cons_zero, List.setIfInBounds_toArray, List.set_cons_succ, List.set_cons_zero])
                        refine wpAnyH_take (i := 1) (v := ?_) rfl (by kernel_rfl) (by kernel_rfl) (by kernel_rfl) (fun _ _ _ h => h) (Or.inl ⟨by kernel_rfl, ?_⟩) hHeld ?_
                        rotate_left
                        · (rintro W ⟨⟨e0, e1⟩, ⟨e2, e3, e4, e5⟩, e6, _⟩; go_simp; (try with_reducible rfl))
                        (try simp only [Act.put, List.getElem_toArray, List.getElem_cons_succ, List.getElem_cons_zero, List.setIfInBounds_toArray, List.set_cons_succ, List.set_cons_zero])
                        refine wpAnyH_take (i := 2) (v := ?_) rfl (by kernel_rfl) (by kernel_rfl) (by kernel_rfl) (fun _ _ _ h => h) (Or.inl ⟨by kernel_rfl, ?_⟩) hHeld ?_
                        rotate_left
                        · (rintro W ⟨⟨e0, e1⟩, ⟨e2, e3, e4, e5⟩, e6, _⟩; go_simp; (try with_reducible rfl))
                        (try simp only [Act.put, List.getElem_toArray, List.getElem_cons_succ, List.getElem_cons_zero, List.setIfInBounds_toArray, List.set_cons_succ, List.set_cons_zero])
                        refine wpAnyH_take (i := 3) (v := ?_) rfl (by kernel_rfl) (by kernel_rfl) (by kernel_rfl) (fun _ _ _ h => h) (Or.inl ⟨by kernel_rfl, ?_⟩) hHeld ?_
                        rotate_left
                        · (rintro W ⟨⟨e0, e1⟩, ⟨e2, e3, e4, e5⟩, e6, _⟩; go_simp; (try with_reducible rfl))
                        (try simp only [Act.put, List.getElem_toArray, List.getElem_cons_succ, List.getElem_cons_zero, List.setIfInBounds_toArray, List.set_cons_succ, List.set_cons_zero])
                        refine wpAnyH_take (i := 4) (v := ?_) rfl (by kernel_rfl) (by kernel_rfl) (by kernel_rfl) (fun _ _ _ h => h) (Or.inl ⟨by kernel_rfl, ?_⟩) hHeld ?_
                        rotate_left
                        · (rintro W ⟨⟨e0, e1⟩, ⟨e2, e3, e4, e5⟩, e6, _⟩; go_simp; (try with_reducible rfl))
                        (try simp only [Act.put, List.getElem_toArray, List.getElem_cons_succ, List.getElem_cons_zero, List.setIfInBounds_toArray, List.set_cons_succ, List.set_cons_zero])
                        refine wpAnyH_take (i := 5) (v := ?_) rfl (by kernel_rfl) (by kernel_rfl) (by kernel_rfl) (fun _ _ _ h => h) (Or.inl ⟨by kernel_rfl, ?_⟩) hHeld ?_
                        rotate_left
                        · (rintro W ⟨⟨e0, e1⟩, ⟨e2, e3, e4, e5⟩, e6, _⟩; go_simp; (try with_reducible rfl))
                        (try simp only [Act.put, List.getElem_toArray, List.getElem_cons_succ, List.getElem_cons_zero, List.setIfInBounds_toArray, List.set_cons_succ, List.set_cons_zero])
                        refine wpAnyH_take (i := 6) (v := ?_) rfl (by kernel_rfl) (by kernel_rfl) (by kernel_rfl) (fun _ _ _ h => h) (Or.inl ⟨by kernel_rfl, ?_⟩) hHeld ?_
                        rotate_left
                        · (rintro W ⟨⟨e0, e1⟩, ⟨e2, e3, e4, e5⟩, e6, _⟩; go_simp; (try with_reducible rfl))
                        (try simp only [Act.put, List.getElem_toArray, List.getElem_cons_succ, List.getElem_cons_zero, List.setIfInBounds_toArray, List.set_cons_succ, List.set_cons_zero])
                        refine wpAnyH_take (i := 7) (v := ?_) rfl (by kernel_rfl) (by kernel_rfl) (by kernel_rfl) (fun _ _ _ h => h) (Or.inl ⟨by kernel_rfl, ?_⟩) hHeld ?_
                        rotate_left
                        · (rintro W ⟨⟨e0, e1⟩, ⟨e2, e3, e4, e5⟩, e6, _⟩; go_simp; (try with_reducible rfl))
                        (try simp only [Act.put, List.getElem_toArray, List.getElem_cons_succ, List.getElem_cons_zero, List.setIfInBounds_toArray, List.set_cons_succ, List.set_cons_zero])
                        refine wpAnyH_take (i := 8) (v := ?_) rfl (by kernel_rfl) (by kernel_rfl) (by kernel_rfl) (fun _ _ _ h => h) (Or.inl ⟨by kernel_rfl, ?_⟩) hHeld ?_
                        rotate_left
                        · (rintro W ⟨⟨e0, e1⟩, ⟨e2, e3, e4, e5⟩, e6, _⟩; go_simp; (try with_reducible rfl))
                        (try simp only [Act.put, List.getElem_toArray, List.getElem_cons_succ, List.getElem_cons_zero, List.setIfInBounds_toArray, List.set_cons_succ, List.set_cons_zero])
                        refine wpAnyH_take (i := 9) (v := ?_) rfl (by kernel_rfl) (by kernel_rfl) (by kernel_rfl) (fun _ _ _ h => h) (Or.inl ⟨by kernel_rfl, ?_⟩) hHeld ?_
                        rotate_left
                        · (rintro W ⟨⟨e0, e1⟩, ⟨e2, e3, e4, e5⟩, e6, _⟩; go_simp; (try with_reducible rfl))
                        (try simp only [Act.put, List.getElem_toArray, List.getElem_cons_succ, List.getElem_cons_zero, List.setIfInBounds_toArray, List.set_cons_succ, List.set_cons_zero])
                        refine wpAnyH_take (i := 10) (v := ?_) rfl (by kernel_rfl) (by kernel_rfl) (by kernel_rfl) (fun _ _ _ h => h) (Or.inl ⟨by kernel_rfl, ?_⟩) hHeld ?_
                        rotate_left
                        · (rintro W ⟨⟨e0, e1⟩, ⟨e2, e3, e4, e5⟩, e6, _⟩; go_simp; (try with_reducible rfl))
                        (try simp only [Act.put, List.getElem_toArray, List.getElem_cons_succ, List.getElem_cons_zero, List.setIfInBounds_toArray, List.set_cons_succ, List.set_cons_zero])
                        refine wpAnyH_take (i := 11) (v := ?_) rfl (by kernel_rfl) (by kernel_rfl) (by kernel_rfl) (fun _ _ _ h => h) (Or.inl ⟨by kernel_rfl, ?_⟩) hHeld ?_
                        rotate_left
                        · (rintro W ⟨⟨e0, e1⟩, ⟨e2, e3, e4, e5⟩, e6, _⟩; go_simp; (try with_reducible rfl))
                        (try simp only [Act.put, List.getElem_toArray, List.getElem_cons_succ, List.getElem_cons_zero, List.setIfInBounds_toArray, List.set_cons_succ, List.set_cons_zero])
                        refine wpAnyH_take (i := 12) (v := ?_) rfl (by kernel_rfl) (by kernel_rfl) (by kernel_rfl) (fun _ _ _ h => h) (Or.inl ⟨by kernel_rfl, ?_⟩) hHeld ?_
                        rotate_left
                        · (rintro W ⟨⟨e0, e1⟩, ⟨e2, e3, e4, e5⟩, e6, _⟩; go_simp; (try with_reducible rfl))
                        (try simp only [Act.put, List.getElem_toArray, List.getElem_cons_succ, List.getElem_cons_zero, List.setIfInBounds_toArray, List.set_cons_succ, List.set_cons_zero])
                        refine wpAnyH_take (i := 13) (v := ?_) rfl (by kernel_rfl) (by kernel_rfl) (by kernel_rfl) (fun _ _ _ h => h) (Or.inl ⟨by kernel_rfl, ?_⟩) hHeld ?_
                        rotate_left
                        · (rintro W ⟨⟨e0, e1⟩, ⟨e2, e3, e4, e5⟩, e6, _⟩; go_simp; (try with_reducible rfl))
                        (try simp only [Act.put, List.getElem_toArray, List.getElem_cons_succ, List.getElem_cons_zero, List.setIfInBounds_toArray, List.set_cons_succ, List.set_cons_zero])
                        refine wpAnyH_take (i := 14) (v := ?_) rfl (by kernel_rfl) (by kernel_rfl) (by kernel_rfl) (fun _ _ _ h => h) (Or.inl ⟨by kernel_rfl, ?_⟩) hHeld ?_
                        rotate_left
                        · (rintro W ⟨⟨e0, e1⟩, ⟨e2, e3, e4, e5⟩, e6, _⟩; go_simp; (try with_reducible rfl))
                        (try simp only [Act.put, List.getElem_toArray, List.getElem_cons_succ, List.getElem_cons_zero, List.setIfInBounds_toArray, List.set_cons_succ, List.set_cons_zero])
                        refine wpAnyH_take (i := 15) (v := ?_) rfl (by kernel_rfl) (by kernel_rfl) (by kernel_rfl) (fun _ _ _ h => h) (Or.inl ⟨by kernel_rfl, ?_⟩) hHeld ?_
                        rotate_left
                        · (rintro W ⟨⟨e0, e1⟩, ⟨e2, e3, e4, e5⟩, e6, _⟩; go_simp; (try with_reducible rfl))
                        (try simp only [Act.put, List.getElem_toArray, List.getElem_cons_succ, List.getElem_cons_zero, List.setIfInBounds_toArray, List.set_cons_succ, List.set_cons_zero])
                        refine wpAnyH_take (i := 16) (v := ?_) rfl (by kernel_rfl) (by kernel_rfl) (by kernel_rfl) (fun _ _ _ h => h) (Or.inl ⟨by kernel_rfl, ?_⟩) hHeld ?_
                        rotate_left
                        · (rintro W ⟨⟨e0, e1⟩, ⟨e2, e3, e4, e5⟩, e6, _⟩; go_simp; (try with_reducible rfl))
                        (try simp only [Act.put, List.getElem_toArray, List.getElem_cons_succ, List.getElem_cons_zero, List.setIfInBounds_toArray, List.set_cons_succ, List.set_cons_zero])
                        refine wpAnyH_take (i := 17) (v := ?_) rfl (by kernel_rfl) (by kernel_rfl) (by kernel_rfl) (fun _ _ _ h => h) (Or.inl ⟨by kernel_rfl, ?_⟩) hHeld ?_
                        rotate_left
                        · (rintro W ⟨⟨e0, e1⟩, ⟨e2, e3, e4, e5⟩, e6, _⟩; go_simp; (try with_reducible rfl))
                        (try simp only [Act.put, List.getElem_toArray, List.getElem_cons_succ, List.getElem_cons_zero, List.setIfInBounds_toArray, List.set_cons_succ, List.set_cons_zero])
                        refine wpAnyH_take (i := 18) (v := ?_) rfl (by kernel_rfl) (by kernel_rfl) (by kernel_rfl) (fun _ _ _ h => h) (Or.inl ⟨by kernel_rfl, ?_⟩) hHeld ?_
                        rotate_left
                        · (rintro W ⟨⟨e0, e1⟩, ⟨e2, e3, e4, e5⟩, e6, _⟩; go_simp; (try with_reducible rfl))
                        (try simp only [Act.put, List.getElem_toArray, List.getElem_cons_succ, List.getElem_cons_zero, List.setIfInBounds_toArray, List.set_cons_succ, List.set_cons_zero])
                        refine wpAnyH_ready (rs := [19]) (by kernel_rfl) (by simp) ?_
                        refine AllReadyH.cons rfl (fun K hK => ?_) AllReadyH.nil
                        go_simp
                        refine (HMt.out _ hHeld.2.2.2).mono ?_
                        rintro e w12 ⟨rfl, hk12⟩
                        refine hK.out _ _ (hHeld.on hk12) (fun hHeld => ?_)
                        clear hK K
                        (try simp only [Act.put, List.getElem_toArray, List.getElem_cons_succ, List.getElem_cons_zero, List.setIfInBounds_toArray, List.set_cons_succ, List.set_cons_zero])
                        refine wpAnyH_take (i := 20) (v := ?_) rfl (by kernel_rfl) (by kernel_rfl) (by kernel_rfl) (fun _ _ _ h => h) (Or.inl ⟨by kernel_rfl, ?_⟩) hHeld ?_
                        rotate_left
                        · (rintro W ⟨⟨e0, e1⟩, ⟨e2, e3, e4, e5⟩, e6, _⟩; go_simp; (try with_reducible rfl))
                        (try simp only [Act.put, List.getElem_toArray, List.getElem_cons_succ, List.getElem_cons_zero, List.setIfInBounds_toArray, List.set_cons_succ, List.set_cons_zero])
                        refine wpAnyH_take (i := 21) (v := ?_) rfl (by kernel_rfl) (by kernel_rfl) (by kernel_rfl) (fun _ _ _ h => h) (Or.inl ⟨by kernel_rfl, ?_⟩) hHeld ?_
                        rotate_left
                        · (rintro W ⟨⟨e0, e1⟩, ⟨e2, e3, e4, e5⟩, e6, _⟩; go_simp; (try with_reducible rfl))
                        (try simp only [Act.put, List.getElem_toArray, List.getElem_cons_succ, List.getElem_cons_zero, List.setIfInBounds_toArray, List.set_cons_succ, List.set_cons_zero])
                        refine wpAnyH_done (by kernel_rfl) ?_ _
                        have hbE := below_then hb (hd.trans (hHeld.2.2.2.mono hd.size))
                        clear hst hHeld hzp
                        go_wp2_with fail
                        go_roundw
                        case rel => exact ⟨z + 1, hlt3, by go_num, hbE⟩
                        case measure => simp [intOf]; omega
                    · have z5 : decide (z < needs.length) = false := decide_eq_false hlt3
                      clear hlt3
                      go_wp2_with fail
                      go_roundw
                      case rel => exact ⟨k + 1, hlt, by go_num, hbA⟩
                      case measure => simp [intOf]; omega
          · have i1 : ¬ (k : Int) < (out.length : Int) := by omega
            have hb8 := below_then HW7.out hb
            have HA := Lib.hid (awake_any wr (HE.out.below hb8))
            clear hlt
            go_wp2_with fail
            refine HA.out.mono ?_
            rintro e w5 ⟨rfl, hb3⟩
            have hb4 := below_then hb8 hb3
            go_wp2_with fail
            go_ret
            exact ⟨rfl, hb4⟩
end Go.Proofs.YtllkiedikjgkbaaGreatDoor
