/- The program's ranges: each, Normal: walks. -/
import Derived.Test.YthojbknakmjndaaGreatDoorRanNorm
import Derived.Test.YthojbknakmjndaaGreatDoorRanProg5
namespace Go
open Go.RowKit
theorem ends_sz (bs : List Bnd) (h : ∀ b ∈ bs, b.v.p.size ≤ 300) : (endsOf bs).lo.v.p.size ≤ 300 ∧ (endsOf bs).hi.v.p.size ≤ 300 :=
  step_sz (P := fun v => v.p.size ≤ 300) (by decide) (by decide) bs h
theorem take_flat {α β : Type} (rs : List (α × List β)) (k : Nat) (h : k < rs.length) : ((rs.take (k + 1)).map Prod.snd).flatten = ((rs.take k).map Prod.snd).flatten ++ rs[k].2 := by
  rw [List.take_succ_eq_append_getElem h, List.map_append, List.flatten_append]; simp
theorem mem_flat {rs : List (Value × List Bnd)} {P : Bnd → Prop} (h : ∀ r ∈ rs, ∀ b ∈ r.2, P b) (k : Nat) : ∀ b ∈ ((rs.take k).map Prod.snd).flatten, P b := by
  intro b hb
  rw [List.mem_flatten] at hb
  obtain ⟨l, hl, hb⟩ := hb
  rw [List.mem_map] at hl
  obtain ⟨r, hr, rfl⟩ := hl
  exact h r (List.mem_of_mem_take hr) b hb
end Go
namespace Go.Proofs.YthojbknakmjndaaGreatDoor
open Go.RowKit
def EaRel (w0 : World) (b : Nat) (rs : List (Value × List Bnd)) (i : Value) (wr : World) : Prop :=
  ∃ k : Nat, k ≤ rs.length ∧ i = .int .i64 (k : Int) ∧ EndsAt wr b (endsOf ((rs.take k).map Prod.snd).flatten) ∧ Below b w0 wr
def EiRel (w0 : World) (b : Nat) (pre bs : List Bnd) (i : Value) (wr : World) : Prop :=
  ∃ m : Nat, m ≤ bs.length ∧ i = .int .i64 (m : Int) ∧ EndsAt wr b (endsOf (pre ++ bs.take m)) ∧ Below b w0 wr
set_option maxRecDepth 100000 in
set_option maxHeartbeats 4000000 in
theorem each_any (w0 : World) (hE : Env w0) (b : Nat) (hb0 : w0.heap.size ≤ b) (v : Value) (rs : List (Value × List Bnd)) (w : World) (hv : Rngs w0 v rs) (hlen : ∃ a cap, v = .slice a rs.length cap) (hsz : ∀ r ∈ rs, ∀ x ∈ r.2, x.v.p.size ≤ 300)
    (hw : Below b w0 w) (hx : EndsAt w b TwoEnds.zero) :
    Calls Tryz.prog 38 #[v, .func (Fn.func 39) #[.pointer (some ⟨b, 0, none⟩)] #[]] w fun e w' => e = .returned (.tuple #[]) ∧ EndsAt w' b (endsOf (rs.map Prod.snd).flatten) ∧ Below b w0 w' := by
  have HE := Lib.hid hE
  have HSz := Lib.hid hsz
  have HC := Lib.hid hv.cases
  have HR := Lib.hid hv.2
  have HX := Lib.hid hx
  have hrl : rs.length ≤ 9223372036854775807 := by have := hv.1.2.1; unfold maxLen at this; omega
  clear hE hsz hv hx
  obtain ⟨a0, cap0, rfl⟩ := hlen
  go_enter Tryz.func38, Tryz.ntmps38
  go_wp2_with fail
  go_loopw [5, 7, 10, 14, 15, 16] (fun _ _ i _ _ _ wr => EaRel w0 b rs i wr) (fun _ _ i _ _ _ _ => rs.length - (intOf i).toNat)
  case atStart => exact ⟨0, Nat.zero_le _, rfl, HX.out, hw⟩
  case round =>
    obtain ⟨k, hk, rfl, hxe, hwr⟩ := hrel
    have HX := Lib.hid hxe
    clear hxe
    by_cases hlt : k < rs.length
    · have i0 : (0 : Int) ≤ (k : Int) := by omega
      have i1 : (k : Int) < (rs.length : Int) := by omega
      obtain ⟨bx, ox, cap, hva, hn0, hbx, hc⟩ : ∃ b off cap, (Value.slice a0 rs.length cap0 = Value.slice (some ⟨b, off, none⟩) rs.length cap) ∧ 0 < rs.length ∧ b < w0.heap.size ∧ ∀ j (h : j < rs.length), w0.cell? ⟨b, off + j, none⟩ = some rs[j].1 := by
        rcases HC.out with ⟨a, cap, hva, he⟩ | h
        · rw [he] at hlt; simp at hlt
        · exact h
      have ha0 : a0 = some ⟨bx, ox, none⟩ := by injection hva
      subst ha0
      have hbxb : bx < b := by omega
      have c0 := (hwr.cell (p := ⟨bx, ox + k, none⟩) hbxb).trans (hc k hlt)
      have hrk := HR.out _ (List.getElem_mem hlt)
      have HTk := Lib.hid (take_flat rs k hlt)
      have HSk := Lib.hid (HSz.out _ (List.getElem_mem hlt))
      have HPre := Lib.hid (mem_flat HSz.out k)
      obtain ⟨r, hr⟩ : ∃ r, rs[k] = r := ⟨_, rfl⟩
      rw [hr] at c0 hrk HTk HSk
      obtain ⟨rv, bs⟩ := r
      obtain ⟨hbs, ra, rcap, hrv⟩ := hrk
      simp only at hbs hrv c0
      subst hrv
      have HB := Lib.hid hbs.cases.2
      have hbl : bs.length ≤ 9223372036854775807 := by have := hbs.cases.1; unfold maxLen at this; omega
      obtain ⟨pre, hpre⟩ : ∃ pre, ((rs.take k).map Prod.snd).flatten = pre := ⟨_, rfl⟩
      rw [hpre] at HTk HX HPre
      clear hc hva hr hbs hpre
      go_wp2_with fail
      obtain ⟨wo, hwo⟩ : ∃ wo : World, wo = wr := ⟨_, rfl⟩
      subst hwo
      go_loopw [7, 16] (fun _ i wi => EiRel w0 b pre bs i wi) (fun _ i _ => bs.length - (intOf i).toNat)
      case atStart => exact ⟨0, Nat.zero_le _, rfl, by rw [List.take_zero, List.append_nil]; exact HX.out, hwr⟩
      case round =>
        obtain ⟨m, hm, rfl, hxe, hwi⟩ := hrel
        have HXi := Lib.hid hxe
        clear hxe
        by_cases hlm : m < bs.length
        · have j0 : (0 : Int) ≤ (m : Int) := by omega
          have j1 : (m : Int) < (bs.length : Int) := by omega
          obtain ⟨by', oy, cap2, hva, hn2, hby, hd⟩ : ∃ b off cap, (Value.slice ra bs.length rcap = Value.slice (some ⟨b, off, none⟩) bs.length cap) ∧ 0 < bs.length ∧ b < w0.heap.size ∧ ∀ j (h : j < bs.length), w0.cell? ⟨b, off + j * 5, none⟩ = some (.int .i64 bs[j].op) ∧
              w0.cell? ⟨b, off + j * 5 + 1, none⟩ = some (.int .i64 bs[j].v.a) ∧ w0.cell? ⟨b, off + j * 5 + 2, none⟩ = some (.int .i64 bs[j].v.b) ∧ w0.cell? ⟨b, off + j * 5 + 3, none⟩ = some (.int .i64 bs[j].v.c) ∧
              w0.cell? ⟨b, off + j * 5 + 4, none⟩ = some (.string bs[j].v.p) := by
            rcases HB.out with ⟨a, cap, hva, he⟩ | h
            · rw [he] at hlm; simp at hlm
            · exact h
          have ha0 : ra = some ⟨by', oy, none⟩ := by injection hva
          subst ha0
          have hbyb : by' < b := by omega
          obtain ⟨g0, g1, g2, g3, g4⟩ := hd m hlm
          have d0 := (hwi.cell (p := ⟨by', oy + m * 5, none⟩) hbyb).trans g0
          have d1 := (hwi.cell (p := ⟨by', oy + m * 5 + 1, none⟩) hbyb).trans g1
          have d2 := (hwi.cell (p := ⟨by', oy + m * 5 + 2, none⟩) hbyb).trans g2
          have d3 := (hwi.cell (p := ⟨by', oy + m * 5 + 3, none⟩) hbyb).trans g3
          have d4 := (hwi.cell (p := ⟨by', oy + m * 5 + 4, none⟩) hbyb).trans g4
          have HTi := Lib.hid (List.take_succ_eq_append_getElem hlm)
          have hsx := HSk.out _ (List.getElem_mem hlm)
          have hse := ends_sz (pre ++ bs.take m) (fun y hy => by
            rcases List.mem_append.1 hy with h | h
            · exact HPre.out y h
            · exact HSk.out y (List.mem_of_mem_take h))
          obtain ⟨x, hxe⟩ : ∃ x, bs[m] = x := ⟨_, rfl⟩
          rw [hxe] at d0 d1 d2 d3 d4 HTi hsx
          obtain ⟨E, hEe⟩ : ∃ E, endsOf (pre ++ bs.take m) = E := ⟨_, rfl⟩
          rw [hEe] at HXi hse
          have HEe := Lib.hid hEe
          have hltb := HXi.out.lt
          have hW1 := hwi.alloc (by omega) (.cells #[.int .i64 x.op, .int .i64 x.v.a, .int .i64 x.v.b, .int .i64 x.v.c, .string x.v.p] 54)
          have HX1 := Lib.hid (HXi.out.below ((Below.refl _ _).alloc (Nat.le_refl _) (.cells #[.int .i64 x.op, .int .i64 x.v.a, .int .i64 x.v.b, .int .i64 x.v.c, .string x.v.p] 54)) hltb)
          clear g0 g1 g2 g3 g4 hd hva hxe hEe
          go_wp2_with fail
          refine (add_any w0 HE.out b hb0 E x _ hW1 HX1.out hsx hse.1 hse.2).mono ?_
          rintro e w5 ⟨rfl, hx5, hw5⟩
          have HX5 := Lib.hid hx5
          clear hx5
          go_wp2_with fail
          go_roundw
          case rel =>
            refine ⟨m + 1, hlm, by go_num, ?_, hw5⟩
            rw [HTi.out, ← List.append_assoc, endsOf_snoc, HEe.out]
            exact HX5.out
          case measure => simp [intOf]; omega
        · have q4 : decide (m < bs.length) = false := by simp; omega
          have HF : Hid (pre ++ bs.take m = ((rs.take (k + 1)).map Prod.snd).flatten) := by
            show _ = _
            rw [HTk.out, List.take_of_length_le (by omega)]
          clear hlm
          go_wp2_with fail
          go_roundw
          case rel => exact ⟨k + 1, hlt, by go_num, by rw [← HF.out]; exact HXi.out, hwi⟩
          case measure => simp [intOf]; omega
    · have q5 : decide (k < rs.length) = false := by simp; omega
      have HF : Hid (rs.take k = rs) := List.take_of_length_le (by omega)
      clear hlt
      go_wp2_with fail
      go_end0
      exact ⟨rfl, by have := HX.out; rw [HF.out] at this; exact this, hwr⟩
end Go.Proofs.YthojbknakmjndaaGreatDoor
