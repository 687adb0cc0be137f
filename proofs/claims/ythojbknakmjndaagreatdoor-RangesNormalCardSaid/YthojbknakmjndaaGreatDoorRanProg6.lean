/- The program's ranges: Show: a walk. -/
import Derived.Test.YthojbknakmjndaaGreatDoorRanProg1
import Derived.Test.YthojbknakmjndaaGreatDoorRanLib
import Derived.Test.YthojbknakmjndaaGreatDoorRanMath3
import Derived.Test.YthojbknakmjndaaGreatDoorSemProg4
namespace Go.Proofs.YthojbknakmjndaaGreatDoor
open Go.RowKit
theorem info_str : (Tryz.prog.info? 9).map (fun i => (i.zero, i.size, i.bytes)) = some (some (.string ⟨#[]⟩), 1, 16) := by kernel_rfl
theorem showQ_any (v : V4) (h : v.ok = true) (T : ByteArray) (hT : S v.show = T) (w : World) (hE : Env w) :
    Calls Tryz.prog 31 #[.agg #[.int .i64 v.a, .int .i64 v.b, .int .i64 v.c, .string v.p]] w fun e w' => e = .returned (.tuple #[.string T, .int .i64 0]) ∧ Below w.heap.size w w' := by
  have hb := verOk_bounds h
  have e1 : ((v.a.toNat : Nat) : Int) = v.a := by omega
  have e2 : ((v.b.toNat : Nat) : Int) = v.b := by omega
  have e3 : ((v.c.toNat : Nat) : Int) = v.c := by omega
  have hv : verErr v.a v.b v.c v.p.data.toList = 0 := by unfold verErr; rw [if_pos (show verOk v.a v.b v.c v.p.data.toList = true from h)]
  have := show_yes v.a.toNat v.b.toNat v.c.toNat v.p w hE (by rw [Lib.size_eq]; omega) (by omega) (by omega) (by omega) (by rw [e1, e2, e3]; exact hv)
  rw [e1, e2, e3] at this
  subst hT
  exact this
theorem rcheck_as (v : Value) (bs : List Bnd) (r : Int) (h : rangeErr bs = r) (w : World) (hv : Bnds w v bs) (hlen : ∃ a cap, v = .slice a bs.length cap) (hE : Env w) (hp : ∀ x ∈ bs, x.v.p.size ≤ 9223372036854775807) :
    Calls Tryz.prog 16 #[v] w fun e w' => e = .returned (.int .i64 r) ∧ Below w.heap.size w w' := by
  subst h; exact rcheck_any v bs w hv hlen hE hp
theorem own_cap {w : World} {B : Nat} {e : TypeId} {v : Value} {n : Nat} {xs : List Value} (h : w.ownsRow B e 1 v n xs) (hn : 0 < n) : ∀ a m c, v = .slice a m c → m ≤ c := by
  obtain ⟨h1, h2 | ⟨g, cap, cur, hv, h3, h4, h5, h6, h7, h8⟩⟩ := h
  · omega
  · rintro a m c rfl
    injection hv with e1 e2 e3
    omega
def ShRel (bs : List Bnd) (w1 : World) (v i : Value) (wr : World) : Prop :=
  ∃ k : Nat, k ≤ bs.length ∧ i = .int .i64 (k : Int) ∧ wr.ownsRow w1.heap.size 9 1 v k (strs ((bs.take k).map Bnd.show)) ∧ Below w1.heap.size w1 wr
set_option maxRecDepth 100000 in
set_option maxHeartbeats 2000000 in
theorem rshow_no (v : Value) (bs : List Bnd) (w : World) (hv : Bnds w v bs) (hlen : ∃ a cap, v = .slice a bs.length cap) (hE : Env w) (hp : ∀ x ∈ bs, x.v.p.size ≤ 9223372036854775807) (h : rangeErr bs = 50) :
    Calls Tryz.prog 14 #[v] w fun e w' => e = .returned (.tuple #[.string ⟨#[]⟩, .int .i64 50]) ∧ Below w.heap.size w w' := by
  have H := Lib.hid (rcheck_as v bs 50 h w hv hlen hE hp)
  clear h hv hlen hE hp
  go_enter Tryz.func14, Tryz.ntmps14
  go_wp2_with fail
  refine H.out.mono ?_
  rintro e w1 ⟨rfl, hb1⟩
  go_wp2_with fail
  go_ret2
  exact ⟨rfl, hb1⟩
set_option maxRecDepth 100000 in
set_option maxHeartbeats 4000000 in
theorem rshow_yes (v : Value) (bs : List Bnd) (w : World) (hv : Bnds w v bs) (hlen : ∃ a cap, v = .slice a bs.length cap) (hE : Env w) (hp : ∀ x ∈ bs, x.v.p.size ≤ 9223372036854775807) (h : rangeOk bs = true) :
    Calls Tryz.prog 14 #[v] w fun e w' => e = .returned (.tuple #[.string (S (showR bs)), .int .i64 0]) ∧ Below w.heap.size w w' := by
  have H := Lib.hid (rcheck_as v bs 0 (by unfold rangeErr; rw [if_pos h]) w hv hlen hE hp)
  have HE := Lib.hid hE
  have HAll := Lib.hid (rangeOk_all h).2
  have hb20 := (rangeOk_all h).1
  have HI := Lib.hid (info_parts info_str)
  obtain ⟨a0, cap0, rfl⟩ := hlen
  clear h hE hp
  rcases hv.cases.2 with ⟨a, cap, hva, he⟩ | ⟨bx, ox, cap, hva, hn0, hbx, hc⟩
  · have h0 : bs.length = 0 := by rw [he]; rfl
    rw [h0] at H ⊢
    have HF : Hid (S (showR bs) = ⟨#[42]⟩) := by show _ = _; rw [he]; rfl
    clear he h0 hv hva
    go_enter Tryz.func14, Tryz.ntmps14
    go_wp2_with fail
    refine H.out.mono ?_
    rintro e w1 ⟨rfl, hb1⟩
    go_wp2_with fail
    go_ret2
    exact ⟨by rw [HF.out]; rfl, hb1⟩
  have ha0 : a0 = some ⟨bx, ox, none⟩ := by injection hva
  have hcap : cap0 = cap := by injection hva
  subst ha0 hcap
  have HC := Lib.hid hc
  have q0 : ((bs.length : Int) == 0) = false := beq_eq_false_iff_ne.2 (by omega)
  have q0' : decide (bs.length = 0) = false := decide_eq_false (by omega)
  clear hc hv hva
  go_enter Tryz.func14, Tryz.ntmps14
  go_wp2_with fail
  refine H.out.mono ?_
  rintro e w1 ⟨rfl, hb1⟩
  go_wp2_with fail
  go_loopw [5, 7, 8, 9, 20] (fun v _ _ _ i wr => ShRel bs w1 v i wr) (fun _ _ _ _ i _ => bs.length - (intOf i).toNat)
  case atStart => exact ⟨0, Nat.zero_le _, rfl, World.ownsRow_nil _ _ _ _, Below.refl _ _⟩
  case round =>
    obtain ⟨k, hk, rfl, hown, hb⟩ := hrel
    have HO := Lib.hid hown
    clear hown
    have hW := below_then hb1 hb
    by_cases hlt : k < bs.length
    · have i0 : (0 : Int) ≤ (k : Int) := by omega
      have i1 : (k : Int) < (bs.length : Int) := by omega
      obtain ⟨g0, g1, g2, g3, g4⟩ := HC.out k hlt
      have c0 := (hW.cell (p := ⟨bx, ox + k * 5, none⟩) hbx).trans g0
      have c1 := (hW.cell (p := ⟨bx, ox + k * 5 + 1, none⟩) hbx).trans g1
      have c2 := (hW.cell (p := ⟨bx, ox + k * 5 + 2, none⟩) hbx).trans g2
      have c3 := (hW.cell (p := ⟨bx, ox + k * 5 + 3, none⟩) hbx).trans g3
      have c4 := (hW.cell (p := ⟨bx, ox + k * 5 + 4, none⟩) hbx).trans g4
      have hok := HAll.out _ (List.getElem_mem hlt)
      obtain ⟨x, hxe⟩ : ∃ x, bs[k] = x := ⟨_, rfl⟩
      rw [hxe] at c0 c1 c2 c3 c4 hok
      have HT := Lib.hid (List.take_succ_eq_append_getElem hlt)
      have HX := Lib.hid hxe
      have HV : Hid (x.v.ok = true) := by
        unfold Bnd.ok at hok
        rw [Bool.and_eq_true] at hok
        exact hok.2
      have hsl := show_len hok
      obtain ⟨A, hA⟩ : ∃ A, S (signL x.op) = A := ⟨_, rfl⟩
      obtain ⟨T, hT⟩ : ∃ T, S x.v.show = T := ⟨_, rfl⟩
      have HA := Lib.hid hA
      have HTT := Lib.hid hT
      have HAT : Hid (A ++ T = S x.show) := by show _ = _; rw [← hA, ← hT, S_append]; rfl
      have hAz : A.size + T.size ≤ 60 := by
        rw [← hA, ← hT, S_size, S_size]
        unfold Bnd.show at hsl
        rw [List.length_append] at hsl
        exact hsl
      have r1 : ∀ W, (Op.stringOp .add A T).run Tryz.prog W = .ok (.string (A ++ T)) W := fun W => run_string_add_sum W _ _ (by omega)
      clear g0 g1 g2 g3 g4 hxe hok hsl hA hT hAz
      go_wp2_with fail
      refine (showQ_any x.v HV.out T HTT.out _ ((HE.out.below hW).alloc _)).mono ?_
      rintro e w3 ⟨rfl, hb3⟩
      have hx3 := box_of hb3
      have d0 := box_cells hx3 0
      simp at d0
      have hb4 := hb.trans ((below_first hx3).mono hb.size)
      have HO3 := Lib.hid (owns_below HO.out (below_first hx3))
      have hB3 := hb4.size
      obtain ⟨i0', hi, hz0, hz1, hz2⟩ := HI.out
      clear hb3 hx3
      go_wp2_with fail
      refine (sign_as x.op A HA.out _).mono ?_
      rintro e w4 ⟨rfl, rfl⟩
      go_wp2_with (at_builtin; go_must (refine wpList_append_own _ rfl _ _ 51 rfl w1.heap.size 9 i0' (.string ⟨#[]⟩) 1 16 Tryz.underlying51 hi hz0 hz1 hz2 rfl (by decide) _ _ _ rfl (HO3.out.alloc _) ⟨_, 0, none⟩ 1 1 [.string (A ++ T)] rfl rfl ?c1 ?c2 ?c3 ?c4 ?c5 ?_))
      case c1 => exact cell_one_new _ _ _
      case c2 => intro u hu; simp at hu; subst hu; rfl
      case c3 => unfold maxLen; omega
      case c4 => omega
      case c5 => simp; omega
      intro v' w5 hown2 hg2 _
      have hb6 := below_grown (hb4.alloc hB3 _) (HO3.out.alloc _) hg2 (by simp; omega)
      have HO2 := Lib.hid hown2
      clear hg2 hown2
      go_wp2
      go_roundw
      case rel =>
        refine ⟨k + 1, hlt, by go_num, ?_, hb6⟩
        have h := HO2.out
        rw [HT.out, List.map_append, HX.out]
        rw [HAT.out] at h
        try rw [← List.map_take] at h
        have e : strs ((bs.take k).map Bnd.show) ++ [.string (S x.show)] = strs ((bs.take k).map Bnd.show ++ [x].map Bnd.show) := by simp [strs]
        rw [e] at h
        exact h
      case measure => simp [intOf]; omega
    · have q3 : decide (k < bs.length) = false := by simp; omega
      have HK := Lib.hid (show k = bs.length by omega)
      have HO4 : Hid (wr.ownsRow w1.heap.size 9 1 u5 bs.length (strs (bs.map Bnd.show))) := by
        have h := HO.out
        rw [HK.out, List.take_of_length_le (Nat.le_refl _)] at h
        exact h
      have HJ : Hid ((joinAt 32 (bs.map Bnd.show)).length ≤ 100000) := by
        have := joinAt_len 32 60 (bs.map Bnd.show) (fun p hp => by
          rw [List.mem_map] at hp
          obtain ⟨b, hb, rfl⟩ := hp
          exact show_len (HAll.out b hb))
        rw [List.length_map] at this
        show _ ≤ _
        omega
      have HF : Hid (S (joinAt 32 (bs.map Bnd.show)) = S (showR bs)) := by
        show _ = _
        unfold showR showB
        cases hbs : bs with
        | nil => rw [hbs] at hn0; simp at hn0
        | cons b bs => rfl
      clear hlt
      go_wp2_with fail
      refine (joinB_any _ (bs.map Bnd.show) _ (Strs.of_owns HO4.out) (by simp; omega) (own_cap HO4.out hn0) HJ.out (by simp; omega)).mono ?_
      rintro e w3 ⟨rfl, hb3⟩
      go_wp2_with fail
      go_ret2
      exact ⟨by rw [← HF.out]; rfl, below_then hW hb3⟩
end Go.Proofs.YthojbknakmjndaaGreatDoor
